import Derived.Test.YtahciphhopiipaaGreatDoorK4
import Derived.KernelRfl
set_option linter.unusedVariables false
set_option linter.unusedSimpArgs false
namespace Go.Proofs.YtahciphhopiipaaGreatDoor
open Go Go.RowKit V
def TTe : Tab := [(3, ⟨.int .i64, 1, 8, [.im true (.int .i64 0)], [.int .i64 0]⟩),
  (9, ⟨.str, 1, 16, [.im true (.str ⟨#[]⟩)], [.str ⟨#[]⟩]⟩),
  (24, ⟨.sl 3, 1, 24, [.nil], [.sl 1 []]⟩),
  (26, ⟨.sl 53, 1, 24, [.nil], [.sl 3 []]⟩),
  (50, ⟨.sl 66, 1, 24, [.nil], [.sl 2 []]⟩),
  (51, ⟨.sl 74, 1, 24, [.nil], [.sl 6 []]⟩),
  (53, ⟨.st [(0, 1), (1, 1), (2, 1)], 3, 72, [.nil, .nil, .nil], [.sl 2 [], .sl 6 [], .sl 1 []]⟩),
  (64, ⟨.sl 9, 1, 24, [.nil], [.sl 1 []]⟩),
  (66, ⟨.st [(0, 1), (1, 1)], 2, 32, [.im true (.int .i64 0), .nil], [.int .i64 0, .sl 1 []]⟩),
  (72, ⟨.sl 80, 1, 24, [.nil], [.sl 3 []]⟩),
  (74, ⟨.st [(0, 1), (1, 1), (2, 1), (3, 1), (4, 1), (5, 1)], 6, 128, [.im true (.int .i64 0), .nil, .nil, .nil, .nil, .nil], [.int .i64 0, .sl 1 [], .sl 1 [], .sl 1 [], .sl 1 [], .sl 3 []]⟩),
  (80, ⟨.st [(0, 1), (1, 1), (2, 1)], 3, 32, [.im true (.str ⟨#[]⟩), .im true (.int .i64 0), .im true (.int .i64 0)], [.str ⟨#[]⟩, .int .i64 0, .int .i64 0]⟩)]
theorem TToke : TabOK Tryz.prog TTe := ⟨.int .i64 (by kernel_rfl) (by kernel_rfl),
  .str (by kernel_rfl) (by kernel_rfl),
  .sl 3 1 (by kernel_rfl) (by kernel_rfl) (by kernel_rfl),
  .sl 53 3 (by kernel_rfl) (by kernel_rfl) (by kernel_rfl),
  .sl 66 2 (by kernel_rfl) (by kernel_rfl) (by kernel_rfl),
  .sl 74 6 (by kernel_rfl) (by kernel_rfl) (by kernel_rfl),
  .st [(0, 1), (1, 1), (2, 1)] (.agg #[(.slice none 0 0), (.slice none 0 0), (.slice none 0 0)]) (by kernel_rfl) (by kernel_rfl) rfl rfl (.inr ⟨rfl, rfl⟩) (by decide),
  .sl 9 1 (by kernel_rfl) (by kernel_rfl) (by kernel_rfl),
  .st [(0, 1), (1, 1)] (.agg #[(.int .i64 0), (.slice none 0 0)]) (by kernel_rfl) (by kernel_rfl) rfl rfl (.inr ⟨rfl, rfl⟩) (by decide),
  .sl 80 3 (by kernel_rfl) (by kernel_rfl) (by kernel_rfl),
  .st [(0, 1), (1, 1), (2, 1), (3, 1), (4, 1), (5, 1)] (.agg #[(.int .i64 0), (.slice none 0 0), (.slice none 0 0), (.slice none 0 0), (.slice none 0 0), (.slice none 0 0)]) (by kernel_rfl) (by kernel_rfl) rfl rfl (.inr ⟨rfl, rfl⟩) (by decide),
  .st [(0, 1), (1, 1), (2, 1)] (.agg #[(.string ⟨#[]⟩), (.int .i64 0), (.int .i64 0)]) (by kernel_rfl) (by kernel_rfl) rfl rfl (.inr ⟨rfl, rfl⟩) (by decide), trivial⟩
theorem mixede : Tryz.prog.follows .mixedOrders = true := by kernel_rfl
theorem tx19e : Text Tryz.prog 19 := Text.of Tryz.func19 rfl (by kernel_rfl)
theorem tx22e : Text Tryz.prog 22 := Text.of Tryz.func22 rfl (by kernel_rfl)
theorem tx23e : Text Tryz.prog 23 := Text.of Tryz.func23 rfl (by kernel_rfl)
theorem tx24e : Text Tryz.prog 24 := Text.of Tryz.func24 rfl (by kernel_rfl)
theorem tx26e : Text Tryz.prog 26 := Text.of Tryz.func26 rfl (by kernel_rfl)
theorem tx27e : Text Tryz.prog 27 := Text.of Tryz.func27 rfl (by kernel_rfl)
theorem tx53e : Text Tryz.prog 53 := Text.of Tryz.func53 rfl (by kernel_rfl)
theorem tx57e : Text Tryz.prog 57 := Text.of Tryz.func57 rfl (by kernel_rfl)
theorem tx69e : Text Tryz.prog 69 := Text.of Tryz.func69 rfl (by kernel_rfl)
theorem tx70e : Text Tryz.prog 70 := Text.of Tryz.func70 rfl (by kernel_rfl)
theorem tx73e : Text Tryz.prog 73 := Text.of Tryz.func73 rfl (by kernel_rfl)
theorem tx85e : Text Tryz.prog 85 := Text.of Tryz.func85 rfl (by kernel_rfl)
theorem tx88e : Text Tryz.prog 88 := Text.of Tryz.func88 rfl (by kernel_rfl)
theorem tx89e : Text Tryz.prog 89 := Text.of Tryz.func89 rfl (by kernel_rfl)
theorem tx111e : Text Tryz.prog 111 := Text.of Tryz.func111 rfl (by kernel_rfl)

set_option maxRecDepth 100000 in
theorem closure (t : ByteArray) (at' : Int) :
    CallV Tryz.prog 89 [.lf (.im true (.str t)), .lf (.sref true [.int .i64 at'])] (· = .bool (nmB at' t)) := by
  refine CallX (fn := Tryz.f89) TToke mixede Tryz.func89 rfl rfl rfl rfl rfl fun E c => ?_
  refine vx c [(0, .lf (.im true (.str t))), (2, .lf (.sref true [.int .i64 at']))] [] AllP.nil (by kernel_rfl) ?_
  refine vx c [(2, .lf (.sref true [.int .i64 at'])), (10, .lf (.im true (.str (pl t))))] [(1, .ret (.tup [.lf (.im true (.str (sg t))), .lf (.im true (.str (pl t)))]))] (a2 (cl tx73e (impl_signOf_v t)) AllP.nil) (by kernel_rfl) ?_
  refine vx c [(2, .lf (.sref true [.int .i64 at'])), (12, .int ((kM (pl t) : Nat) : Int)), (16, .bool (isKind (pl t)))] [(1, .ret (.tup [.lf (.im true (.int .i64 ((kM (pl t) : Nat) : Int))), .lf (.im true (.int .i64 ((kR (pl t) : Nat) : Int))), .lf (.im true (.bool (isKind (pl t))))]))] (a2 (cl tx69e (impl_kindAt_v (pl t))) AllP.nil) (by kernel_rfl) ?_
  refine vxj c [(6, .bool ((isKind (pl t)) && (decide ((((kM (pl t) : Nat) : Int) : Int) = at'))))] (by
      rcases Bool.eq_false_or_eq_true (isKind (pl t)) with g1 | g1
      · exact ⟨[(0, .slot (.bool true)), (6, .slot (.bool ((isKind (pl t)) && (decide ((((kM (pl t) : Nat) : Int) : Int) = at')))))], _, (a2 (kB g1) (a2 (kB (b := decide ((((kM (pl t) : Nat) : Int) : Int) = at')) (c := ((isKind (pl t)) && (decide ((((kM (pl t) : Nat) : Int) : Int) = at')))) (by first | (simp only [g1, Bool.true_or, Bool.false_or, Bool.or_false, Bool.or_true, Bool.true_and, Bool.false_and, Bool.and_true, Bool.and_false, Bool.not_true, Bool.not_false, cond_true, cond_false]; done) | (simp [g1]; done))) AllP.nil)), by kernel_rfl⟩
      · exact ⟨[(0, .slot (.bool false)), (6, .slot (.bool ((isKind (pl t)) && (decide ((((kM (pl t) : Nat) : Int) : Int) = at')))))], _, (a2 (kB g1) (a2 (kB (b := false) (c := ((isKind (pl t)) && (decide ((((kM (pl t) : Nat) : Int) : Int) = at')))) (by first | (simp only [g1, Bool.true_or, Bool.false_or, Bool.or_false, Bool.or_true, Bool.true_and, Bool.false_and, Bool.and_true, Bool.and_false, Bool.not_true, Bool.not_false, cond_true, cond_false]; done) | (simp [g1]; done))) AllP.nil)), by kernel_rfl⟩) ?_
  exact xret [.lf (.im true (.bool ((isKind (pl t)) && (decide ((((kM (pl t) : Nat) : Int) : Int) = at')))))] rfl (by kernel_rfl) (retB (by simp [nmB]))
set_option maxRecDepth 100000 in
theorem indexFunc (l : List ByteArray) (ha : l.length ≤ 140737488355328) (at' : Int) :
    CallV Tryz.prog 111 [.lf (.im true (.sl 1 (l.map rS))), .lf (.im true (.fn 89 [.int .i64 at']))] (· = .int (idxF (nmB at') l)) := by
  refine CallX (fn := Tryz.f111) TToke mixede Tryz.func111 rfl rfl rfl rfl rfl fun E c => ?_
  refine vx c [(0, .lf (.im true (.sl 1 (l.map rS)))), (2, .lf (.im true (.fn 89 [.int .i64 at'])))] [] AllP.nil (by kernel_rfl) ?_
  refine xw_seq ?_
  refine vx c [(0, .lf (.im true (.sl 1 (l.map rS)))), (2, .lf (.im true (.fn 89 [.int .i64 at']))), (14, .int ((l.length : Nat) : Int)), (16, .int 0)] [(1, .slot (.int ((l.length : Nat) : Int)))] (a2 (ln (l := l) (f := rS)) AllP.nil) (by kernel_rfl) ?_
  refine xw_block ?_
  refine xw_loop (fun n L => ∃ (i : Nat), L = [(0, .lf (.im true (.sl 1 (l.map rS)))), (2, .lf (.im true (.fn 89 [.int .i64 at']))), (14, .int ((l.length : Nat) : Int)), (16, .int ((i : Nat) : Int))] ∧ n = l.length - i ∧ (i ≤ l.length ∧ ∀ j, j < i → nmB at' (nth l j) = false)) _ ⟨0, rfl, rfl, ⟨by omega, fun j hj => by omega⟩⟩ ?_
  rintro n L ⟨i, rfl, rfl, hP1⟩
  refine vx c [(0, .lf (.im true (.sl 1 (l.map rS)))), (2, .lf (.im true (.fn 89 [.int .i64 at']))), (14, .int ((l.length : Nat) : Int)), (16, .int ((i : Nat) : Int)), (18, .bool (decide ((((i : Nat) : Int) : Int) < ((l.length : Nat) : Int))))] [] AllP.nil (by kernel_rfl) ?_
  refine xw_seq ?_
  refine xw_cond (decide ((((i : Nat) : Int) : Int) < ((l.length : Nat) : Int))) rfl (fun h1 => ?_) (fun h1 => ?_)
  · have h1 := of_dT h1
    refine xw_skip ?_
    refine xw_seq ?_
    refine xw_block ?_
    refine vx c [(0, .lf (.im true (.sl 1 (l.map rS)))), (2, .lf (.im true (.fn 89 [.int .i64 at']))), (10, .int ((i : Nat) : Int)), (14, .int ((l.length : Nat) : Int)), (16, .int ((i : Nat) : Int))] [] AllP.nil (by kernel_rfl) ?_
    refine vx c [(0, .lf (.im true (.sl 1 (l.map rS)))), (2, .lf (.im true (.fn 89 [.int .i64 at']))), (10, .int ((i : Nat) : Int)), (14, .int ((l.length : Nat) : Int)), (16, .int ((i : Nat) : Int)), (32, .bool (nmB at' (nth l i)))] [(3, .row (rS (nth l i))), (5, .ret (.bool (nmB at' (nth l i))))] (a2 (ix (f := rS) (l := l) (i := i) (nth_at (l := l) (i := i) (by omega))) (a2 (cl tx89e (closure (nth l i) at')) AllP.nil)) (by kernel_rfl) ?_
    refine xw_cond (nmB at' (nth l i)) rfl (fun h2 => ?_) (fun h2 => ?_)
    · have h2 := h2
      refine vx c [(8, .int ((i : Nat) : Int))] [] AllP.nil (by kernel_rfl) ?_
      exact xret [.lf (.im true (.int .i64 ((i : Nat) : Int)))] rfl (by kernel_rfl) (retI (idx_at (by omega) hP1.2 h2))
    · have h2 := h2
      refine xw_skip ?_
      exact vxe c [(0, .lf (.im true (.sl 1 (l.map rS)))), (2, .lf (.im true (.fn 89 [.int .i64 at']))), (14, .int ((l.length : Nat) : Int)), (16, .int ((i + 1 : Nat) : Int))] [(0, .slot (.int ((i + 1 : Nat) : Int)))] (a2 (wI (a := ((i : Nat) : Int) + 1) (b := ((i + 1 : Nat) : Int)) (by omega) (by omega) (by omega)) AllP.nil) (by kernel_rfl) (⟨_, by omega, (i + 1), rfl, rfl, ⟨by omega, mods_succ (p := fun j => nmB at' (nth l j) = false) hP1.2 h2⟩⟩)
  · have h1 := of_dF h1
    refine xw_exit ?_
    refine vx c [(8, .int (-1))] [] AllP.nil (by kernel_rfl) ?_
    exact xret [.lf (.im true (.int .i64 (-1)))] rfl (by kernel_rfl) (retI (idx_none hP1.2 (by omega)))
set_option maxRecDepth 100000 in
theorem containsFunc (l : List ByteArray) (ha : l.length ≤ 140737488355328) (at' : Int) :
    CallV Tryz.prog 88 [.lf (.im true (.sl 1 (l.map rS))), .lf (.im true (.fn 89 [.int .i64 at']))] (· = .bool (l.any (nmB at'))) := by
  refine CallX (fn := Tryz.f88) TToke mixede Tryz.func88 rfl rfl rfl rfl rfl fun E c => ?_
  refine vx c [(0, .lf (.im true (.sl 1 (l.map rS)))), (2, .lf (.im true (.fn 89 [.int .i64 at'])))] [] AllP.nil (by kernel_rfl) ?_
  refine vx c [(8, .bool (decide ((idxF (nmB at') l : Int) ≥ 0)))] [(2, .ret (.int (idxF (nmB at') l)))] (a2 (cl tx111e (indexFunc l (by assumption) at')) AllP.nil) (by kernel_rfl) ?_
  exact xret [.lf (.im true (.bool (decide ((idxF (nmB at') l : Int) ≥ 0))))] rfl (by kernel_rfl) (retB (idx_ge _ _))
set_option maxRecDepth 100000 in
theorem impl_namesModule_v (l : List ByteArray) (ha : l.length ≤ 140737488355328) (at' : Int) :
    CallV Tryz.prog 57 [.lf (.im true (.sl 1 (l.map rS))), .lf (.im true (.int .i64 at'))] (· = .bool (l.any (nmB at'))) := by
  refine CallX (fn := Tryz.f57) TToke mixede Tryz.func57 rfl rfl rfl rfl rfl fun E c => ?_
  refine vx c [(0, .lf (.im true (.sl 1 (l.map rS)))), (6, .lf (.ptr 3 0)), (7, .cell 3 [.im true (.int .i64 at')])] [] AllP.nil (by kernel_rfl) ?_
  refine vx c [(8, .bool (l.any (nmB at')))] [(2, .ret (.bool (l.any (nmB at'))))] (a2 (cl tx88e (containsFunc l (by assumption) at')) AllP.nil) (by kernel_rfl) ?_
  exact xret [.lf (.im true (.bool (l.any (nmB at'))))] rfl (by kernel_rfl) (rfl)
set_option maxRecDepth 100000 in
theorem impl_usesModule_v (m : Mod) (hm : m.small) (at' : Int) :
    CallV Tryz.prog 26 [.agg [.im true (.sl 2 (m.records.map rRec)), .im true (.sl 6 (m.funcs.map rFn)), .im true (.sl 1 (m.friends.map rI))], .lf (.im true (.int .i64 at'))] (· = .bool (modUse at' m)) := by
  refine CallX (fn := Tryz.f26) TToke mixede Tryz.func26 rfl rfl rfl rfl rfl fun E c => ?_
  obtain ⟨⟨b1, b2⟩, ⟨b3, b4⟩, b5⟩ := hm
  refine vx c [(2, .int at'), (4, .lf (.ptr 2 0)), (5, .cell 2 [.im true (.sl 2 (m.records.map rRec)), .im true (.sl 6 (m.funcs.map rFn)), .im true (.sl 1 (m.friends.map rI))])] [] AllP.nil (by kernel_rfl) ?_
  refine xw_seq ?_
  refine vx c [(2, .int at'), (4, .lf (.ptr 2 0)), (5, .cell 2 [.im true (.sl 2 (m.records.map rRec)), .im true (.sl 6 (m.funcs.map rFn)), .im true (.sl 1 (m.friends.map rI))]), (24, .lf (.im true (.sl 2 (m.records.map rRec)))), (26, .int ((m.records.length : Nat) : Int)), (28, .int 0)] [(2, .slot (.int ((m.records.length : Nat) : Int)))] (a2 (ln (l := m.records) (f := rRec)) AllP.nil) (by kernel_rfl) ?_
  refine xw_block ?_
  refine xw_loop (fun n L => ∃ (i : Nat), L = [(2, .int at'), (4, .lf (.ptr 2 0)), (5, .cell 2 [.im true (.sl 2 (m.records.map rRec)), .im true (.sl 6 (m.funcs.map rFn)), .im true (.sl 1 (m.friends.map rI))]), (24, .lf (.im true (.sl 2 (m.records.map rRec)))), (26, .int ((m.records.length : Nat) : Int)), (28, .int ((i : Nat) : Int))] ∧ n = m.records.length - i ∧ (i ≤ m.records.length ∧ ∀ j, j < i → recUse at' (nth m.records j) = false)) _ ⟨0, rfl, rfl, ⟨by omega, fun j hj => by omega⟩⟩ ?_
  rintro n L ⟨i, rfl, rfl, hP1⟩
  refine vx c [(2, .int at'), (4, .lf (.ptr 2 0)), (5, .cell 2 [.im true (.sl 2 (m.records.map rRec)), .im true (.sl 6 (m.funcs.map rFn)), .im true (.sl 1 (m.friends.map rI))]), (24, .lf (.im true (.sl 2 (m.records.map rRec)))), (26, .int ((m.records.length : Nat) : Int)), (28, .int ((i : Nat) : Int)), (30, .bool (decide ((((i : Nat) : Int) : Int) < ((m.records.length : Nat) : Int))))] [] AllP.nil (by kernel_rfl) ?_
  refine xw_seq ?_
  refine xw_cond (decide ((((i : Nat) : Int) : Int) < ((m.records.length : Nat) : Int))) rfl (fun h1 => ?_) (fun h1 => ?_)
  · have h1 := of_dT h1
    refine xw_skip ?_
    refine xw_seq ?_
    refine xw_block ?_
    refine vx c [(2, .int at'), (4, .lf (.ptr 2 0)), (5, .cell 2 [.im true (.sl 2 (m.records.map rRec)), .im true (.sl 6 (m.funcs.map rFn)), .im true (.sl 1 (m.friends.map rI))]), (12, .lf (.ptr 6 0)), (13, .cell 6 [.im true (.int .i64 ((nth m.records i).able)), .im true (.sl 1 (((nth m.records i).fields).map rS))]), (24, .lf (.im true (.sl 2 (m.records.map rRec)))), (26, .int ((m.records.length : Nat) : Int)), (28, .int ((i : Nat) : Int))] [(0, .row (rRec (nth m.records i)))] (a2 (ix (f := rRec) (l := m.records) (i := i) (nth_at (l := m.records) (i := i) (by omega))) AllP.nil) (by kernel_rfl) ?_
    refine vx c [(2, .int at'), (4, .lf (.ptr 2 0)), (5, .cell 2 [.im true (.sl 2 (m.records.map rRec)), .im true (.sl 6 (m.funcs.map rFn)), .im true (.sl 1 (m.friends.map rI))]), (24, .lf (.im true (.sl 2 (m.records.map rRec)))), (26, .int ((m.records.length : Nat) : Int)), (28, .int ((i : Nat) : Int)), (42, .bool (((nth m.records i).fields).any (nmB at')))] [(3, .ret (.bool (((nth m.records i).fields).any (nmB at'))))] (a2 (cl tx57e (impl_namesModule_v ((nth m.records i).fields) (by first | (have := b2 _ (nth_mem (l := m.records) (i := i) (by omega)); unfold Rec.small at this; omega) | (have := b4 _ (nth_mem (l := m.funcs) (i := k) (by omega)); unfold Fn.small at this; omega)) at')) AllP.nil) (by kernel_rfl) ?_
    refine xw_cond (((nth m.records i).fields).any (nmB at')) rfl (fun h2 => ?_) (fun h2 => ?_)
    · have h2 := h2
      refine vx c [(8, .bool true)] [] AllP.nil (by kernel_rfl) ?_
      exact xret [.lf (.im true (.bool true))] rfl (by kernel_rfl) (retB (mod_rec (by omega) h2))
    · have h2 := h2
      refine xw_skip ?_
      exact vxe c [(2, .int at'), (4, .lf (.ptr 2 0)), (5, .cell 2 [.im true (.sl 2 (m.records.map rRec)), .im true (.sl 6 (m.funcs.map rFn)), .im true (.sl 1 (m.friends.map rI))]), (24, .lf (.im true (.sl 2 (m.records.map rRec)))), (26, .int ((m.records.length : Nat) : Int)), (28, .int ((i + 1 : Nat) : Int))] [(0, .slot (.int ((i + 1 : Nat) : Int)))] (a2 (wI (a := ((i : Nat) : Int) + 1) (b := ((i + 1 : Nat) : Int)) (by omega) (by omega) (by omega)) AllP.nil) (by kernel_rfl) (⟨_, by omega, (i + 1), rfl, rfl, ⟨by omega, mods_succ (p := fun j => recUse at' (nth m.records j) = false) hP1.2 h2⟩⟩)
  · have h1 := of_dF h1
    refine xw_exit ?_
    refine xw_seq ?_
    refine vx c [(2, .int at'), (48, .lf (.im true (.sl 6 (m.funcs.map rFn)))), (50, .int ((m.funcs.length : Nat) : Int)), (52, .int 0)] [(2, .slot (.int ((m.funcs.length : Nat) : Int)))] (a2 (ln (l := m.funcs) (f := rFn)) AllP.nil) (by kernel_rfl) ?_
    refine xw_block ?_
    refine xw_loop (fun n L => ∃ (k : Nat), L = [(2, .int at'), (48, .lf (.im true (.sl 6 (m.funcs.map rFn)))), (50, .int ((m.funcs.length : Nat) : Int)), (52, .int ((k : Nat) : Int))] ∧ n = m.funcs.length - k ∧ (k ≤ m.funcs.length ∧ ∀ j, j < k → fnUse at' (nth m.funcs j) = false)) _ ⟨0, rfl, rfl, ⟨by omega, fun j hj => by omega⟩⟩ ?_
    rintro n L ⟨k, rfl, rfl, hP2⟩
    refine vx c [(2, .int at'), (48, .lf (.im true (.sl 6 (m.funcs.map rFn)))), (50, .int ((m.funcs.length : Nat) : Int)), (52, .int ((k : Nat) : Int)), (54, .bool (decide ((((k : Nat) : Int) : Int) < ((m.funcs.length : Nat) : Int))))] [] AllP.nil (by kernel_rfl) ?_
    refine xw_seq ?_
    refine xw_cond (decide ((((k : Nat) : Int) : Int) < ((m.funcs.length : Nat) : Int))) rfl (fun h3 => ?_) (fun h3 => ?_)
    · have h3 := of_dT h3
      have hfs := b4 _ (nth_mem (l := m.funcs) (i := k) (by omega))
      unfold Fn.small at hfs
      refine xw_skip ?_
      refine xw_seq ?_
      refine xw_block ?_
      refine vx c [(2, .int at'), (16, .lf (.ptr 8 0)), (17, .cell 8 [.im true (.int .i64 ((nth m.funcs k).seen)), .im true (.sl 1 (((nth m.funcs k).args).map rS)), .im true (.sl 1 (((nth m.funcs k).rets).map rS)), .im true (.sl 1 (((nth m.funcs k).locals).map rS)), .im true (.sl 1 (((nth m.funcs k).takes).map rI)), .im true (.sl 3 (((nth m.funcs k).code).map rIns))]), (48, .lf (.im true (.sl 6 (m.funcs.map rFn)))), (50, .int ((m.funcs.length : Nat) : Int)), (52, .int ((k : Nat) : Int))] [(0, .row (rFn (nth m.funcs k)))] (a2 (ix (f := rFn) (l := m.funcs) (i := k) (nth_at (l := m.funcs) (i := k) (by omega))) AllP.nil) (by kernel_rfl) ?_
      refine xw_seq ?_
      refine vxj c [(2, .int at'), (16, .lf (.ptr 8 0)), (17, .cell 8 [.im true (.int .i64 ((nth m.funcs k).seen)), .im true (.sl 1 (((nth m.funcs k).args).map rS)), .im true (.sl 1 (((nth m.funcs k).rets).map rS)), .im true (.sl 1 (((nth m.funcs k).locals).map rS)), .im true (.sl 1 (((nth m.funcs k).takes).map rI)), .im true (.sl 3 (((nth m.funcs k).code).map rIns))]), (48, .lf (.im true (.sl 6 (m.funcs.map rFn)))), (50, .int ((m.funcs.length : Nat) : Int)), (52, .int ((k : Nat) : Int)), (90, .bool ((((nth m.funcs k).args).any (nmB at')) || ((((nth m.funcs k).rets).any (nmB at')) || (((nth m.funcs k).locals).any (nmB at')))))] (by
          rcases Bool.eq_false_or_eq_true (((nth m.funcs k).args).any (nmB at')) with g1 | g1
          · exact ⟨[(3, .ret (.bool (((nth m.funcs k).args).any (nmB at')))), (4, .slot (.bool true)), (15, .slot (.bool ((((nth m.funcs k).args).any (nmB at')) || ((((nth m.funcs k).rets).any (nmB at')) || (((nth m.funcs k).locals).any (nmB at'))))))], _, (a2 (cl tx57e (impl_namesModule_v ((nth m.funcs k).args) (by first | (have := b2 _ (nth_mem (l := m.records) (i := i) (by omega)); unfold Rec.small at this; omega) | (have := b4 _ (nth_mem (l := m.funcs) (i := k) (by omega)); unfold Fn.small at this; omega)) at')) (a2 (kB g1) (a2 (kB (b := true) (c := ((((nth m.funcs k).args).any (nmB at')) || ((((nth m.funcs k).rets).any (nmB at')) || (((nth m.funcs k).locals).any (nmB at'))))) (by first | (simp only [g1, Bool.true_or, Bool.false_or, Bool.or_false, Bool.or_true, Bool.true_and, Bool.false_and, Bool.and_true, Bool.and_false, Bool.not_true, Bool.not_false, cond_true, cond_false]; done) | (simp [g1]; done))) AllP.nil))), by kernel_rfl⟩
          · rcases Bool.eq_false_or_eq_true (((nth m.funcs k).rets).any (nmB at')) with g2 | g2
            · exact ⟨[(3, .ret (.bool (((nth m.funcs k).args).any (nmB at')))), (4, .slot (.bool false)), (8, .ret (.bool (((nth m.funcs k).rets).any (nmB at')))), (9, .slot (.bool true)), (15, .slot (.bool ((((nth m.funcs k).args).any (nmB at')) || ((((nth m.funcs k).rets).any (nmB at')) || (((nth m.funcs k).locals).any (nmB at'))))))], _, (a2 (cl tx57e (impl_namesModule_v ((nth m.funcs k).args) (by first | (have := b2 _ (nth_mem (l := m.records) (i := i) (by omega)); unfold Rec.small at this; omega) | (have := b4 _ (nth_mem (l := m.funcs) (i := k) (by omega)); unfold Fn.small at this; omega)) at')) (a2 (kB g1) (a2 (cl tx57e (impl_namesModule_v ((nth m.funcs k).rets) (by first | (have := b2 _ (nth_mem (l := m.records) (i := i) (by omega)); unfold Rec.small at this; omega) | (have := b4 _ (nth_mem (l := m.funcs) (i := k) (by omega)); unfold Fn.small at this; omega)) at')) (a2 (kB g2) (a2 (kB (b := true) (c := ((((nth m.funcs k).args).any (nmB at')) || ((((nth m.funcs k).rets).any (nmB at')) || (((nth m.funcs k).locals).any (nmB at'))))) (by first | (simp only [g1, g2, Bool.true_or, Bool.false_or, Bool.or_false, Bool.or_true, Bool.true_and, Bool.false_and, Bool.and_true, Bool.and_false, Bool.not_true, Bool.not_false, cond_true, cond_false]; done) | (simp [g1, g2]; done))) AllP.nil))))), by kernel_rfl⟩
            · exact ⟨[(3, .ret (.bool (((nth m.funcs k).args).any (nmB at')))), (4, .slot (.bool false)), (8, .ret (.bool (((nth m.funcs k).rets).any (nmB at')))), (9, .slot (.bool false)), (14, .ret (.bool (((nth m.funcs k).locals).any (nmB at')))), (15, .slot (.bool ((((nth m.funcs k).args).any (nmB at')) || ((((nth m.funcs k).rets).any (nmB at')) || (((nth m.funcs k).locals).any (nmB at'))))))], _, (a2 (cl tx57e (impl_namesModule_v ((nth m.funcs k).args) (by first | (have := b2 _ (nth_mem (l := m.records) (i := i) (by omega)); unfold Rec.small at this; omega) | (have := b4 _ (nth_mem (l := m.funcs) (i := k) (by omega)); unfold Fn.small at this; omega)) at')) (a2 (kB g1) (a2 (cl tx57e (impl_namesModule_v ((nth m.funcs k).rets) (by first | (have := b2 _ (nth_mem (l := m.records) (i := i) (by omega)); unfold Rec.small at this; omega) | (have := b4 _ (nth_mem (l := m.funcs) (i := k) (by omega)); unfold Fn.small at this; omega)) at')) (a2 (kB g2) (a2 (cl tx57e (impl_namesModule_v ((nth m.funcs k).locals) (by first | (have := b2 _ (nth_mem (l := m.records) (i := i) (by omega)); unfold Rec.small at this; omega) | (have := b4 _ (nth_mem (l := m.funcs) (i := k) (by omega)); unfold Fn.small at this; omega)) at')) (a2 (kB (b := ((nth m.funcs k).locals).any (nmB at')) (c := ((((nth m.funcs k).args).any (nmB at')) || ((((nth m.funcs k).rets).any (nmB at')) || (((nth m.funcs k).locals).any (nmB at'))))) (by first | (simp only [g1, g2, Bool.true_or, Bool.false_or, Bool.or_false, Bool.or_true, Bool.true_and, Bool.false_and, Bool.and_true, Bool.and_false, Bool.not_true, Bool.not_false, cond_true, cond_false]; done) | (simp [g1, g2]; done))) AllP.nil)))))), by kernel_rfl⟩) ?_
      refine xw_cond ((((nth m.funcs k).args).any (nmB at')) || ((((nth m.funcs k).rets).any (nmB at')) || (((nth m.funcs k).locals).any (nmB at')))) rfl (fun h4 => ?_) (fun h4 => ?_)
      · have h4 := h4
        have hh : fnHead at' (nth m.funcs k) = true := by simpa [fnHead, Bool.or_assoc] using h4
        refine vx c [(8, .bool true)] [] AllP.nil (by kernel_rfl) ?_
        exact xret [.lf (.im true (.bool true))] rfl (by kernel_rfl) (retB (mod_fn (by omega) (fn_head hh)))
      · have h4 := h4
        have hh : fnHead at' (nth m.funcs k) = false := by simpa [fnHead, Bool.or_assoc] using h4
        refine xw_skip ?_
        refine vx c [(2, .int at'), (48, .lf (.im true (.sl 6 (m.funcs.map rFn)))), (50, .int ((m.funcs.length : Nat) : Int)), (52, .int ((k : Nat) : Int)), (94, .lf (.im true (.sl 3 (((nth m.funcs k).code).map rIns)))), (96, .int ((((nth m.funcs k).code).length : Nat) : Int)), (98, .int 0)] [(2, .slot (.int ((((nth m.funcs k).code).length : Nat) : Int)))] (a2 (ln (l := (nth m.funcs k).code) (f := rIns)) AllP.nil) (by kernel_rfl) ?_
        refine xw_block ?_
        refine xw_loop (fun n L => ∃ (q : Nat), L = [(2, .int at'), (48, .lf (.im true (.sl 6 (m.funcs.map rFn)))), (50, .int ((m.funcs.length : Nat) : Int)), (52, .int ((k : Nat) : Int)), (94, .lf (.im true (.sl 3 (((nth m.funcs k).code).map rIns)))), (96, .int ((((nth m.funcs k).code).length : Nat) : Int)), (98, .int ((q : Nat) : Int))] ∧ n = (nth m.funcs k).code.length - q ∧ (q ≤ (nth m.funcs k).code.length ∧ ∀ j, j < q → insUse at' (nth (nth m.funcs k).code j) = false)) _ ⟨0, rfl, rfl, ⟨by omega, fun j hj => by omega⟩⟩ ?_
        rintro n L ⟨q, rfl, rfl, hP3⟩
        refine vx c [(2, .int at'), (48, .lf (.im true (.sl 6 (m.funcs.map rFn)))), (50, .int ((m.funcs.length : Nat) : Int)), (52, .int ((k : Nat) : Int)), (94, .lf (.im true (.sl 3 (((nth m.funcs k).code).map rIns)))), (96, .int ((((nth m.funcs k).code).length : Nat) : Int)), (98, .int ((q : Nat) : Int)), (100, .bool (decide ((((q : Nat) : Int) : Int) < ((((nth m.funcs k).code).length : Nat) : Int))))] [] AllP.nil (by kernel_rfl) ?_
        refine xw_seq ?_
        refine xw_cond (decide ((((q : Nat) : Int) : Int) < ((((nth m.funcs k).code).length : Nat) : Int))) rfl (fun h5 => ?_) (fun h5 => ?_)
        · have h5 := of_dT h5
          refine xw_skip ?_
          refine xw_seq ?_
          refine xw_block ?_
          refine vx c [(2, .int at'), (20, .lf (.ptr 10 0)), (21, .cell 10 [.im true (.str ((nth ((nth m.funcs k).code) q).op)), .im true (.int .i64 ((nth ((nth m.funcs k).code) q).a)), .im true (.int .i64 ((nth ((nth m.funcs k).code) q).b))]), (48, .lf (.im true (.sl 6 (m.funcs.map rFn)))), (50, .int ((m.funcs.length : Nat) : Int)), (52, .int ((k : Nat) : Int)), (94, .lf (.im true (.sl 3 (((nth m.funcs k).code).map rIns)))), (96, .int ((((nth m.funcs k).code).length : Nat) : Int)), (98, .int ((q : Nat) : Int))] [(0, .row (rIns (nth ((nth m.funcs k).code) q)))] (a2 (ix (f := rIns) (l := (nth m.funcs k).code) (i := q) (nth_at (l := (nth m.funcs k).code) (i := q) (by omega))) AllP.nil) (by kernel_rfl) ?_
          refine vxj c [(2, .int at'), (48, .lf (.im true (.sl 6 (m.funcs.map rFn)))), (50, .int ((m.funcs.length : Nat) : Int)), (52, .int ((k : Nat) : Int)), (94, .lf (.im true (.sl 3 (((nth m.funcs k).code).map rIns)))), (96, .int ((((nth m.funcs k).code).length : Nat) : Int)), (98, .int ((q : Nat) : Int)), (122, .bool ((((nth ((nth m.funcs k).code) q).op).toList == (⟨#[99, 97, 108, 108]⟩ : ByteArray).toList) && (decide (((nth ((nth m.funcs k).code) q).a : Int) = at'))))] (by
              rcases Bool.eq_false_or_eq_true (((nth ((nth m.funcs k).code) q).op).toList == (⟨#[99, 97, 108, 108]⟩ : ByteArray).toList) with g3 | g3
              · exact ⟨[(2, .slot (.bool true)), (8, .slot (.bool ((((nth ((nth m.funcs k).code) q).op).toList == (⟨#[99, 97, 108, 108]⟩ : ByteArray).toList) && (decide (((nth ((nth m.funcs k).code) q).a : Int) = at')))))], _, (a2 (kB g3) (a2 (kB (b := decide (((nth ((nth m.funcs k).code) q).a : Int) = at')) (c := ((((nth ((nth m.funcs k).code) q).op).toList == (⟨#[99, 97, 108, 108]⟩ : ByteArray).toList) && (decide (((nth ((nth m.funcs k).code) q).a : Int) = at')))) (by first | (simp only [g3, Bool.true_or, Bool.false_or, Bool.or_false, Bool.or_true, Bool.true_and, Bool.false_and, Bool.and_true, Bool.and_false, Bool.not_true, Bool.not_false, cond_true, cond_false]; done) | (simp [g3]; done))) AllP.nil)), by kernel_rfl⟩
              · exact ⟨[(2, .slot (.bool false)), (8, .slot (.bool ((((nth ((nth m.funcs k).code) q).op).toList == (⟨#[99, 97, 108, 108]⟩ : ByteArray).toList) && (decide (((nth ((nth m.funcs k).code) q).a : Int) = at')))))], _, (a2 (kB g3) (a2 (kB (b := false) (c := ((((nth ((nth m.funcs k).code) q).op).toList == (⟨#[99, 97, 108, 108]⟩ : ByteArray).toList) && (decide (((nth ((nth m.funcs k).code) q).a : Int) = at')))) (by first | (simp only [g3, Bool.true_or, Bool.false_or, Bool.or_false, Bool.or_true, Bool.true_and, Bool.false_and, Bool.and_true, Bool.and_false, Bool.not_true, Bool.not_false, cond_true, cond_false]; done) | (simp [g3]; done))) AllP.nil)), by kernel_rfl⟩) ?_
          refine xw_cond ((((nth ((nth m.funcs k).code) q).op).toList == (⟨#[99, 97, 108, 108]⟩ : ByteArray).toList) && (decide (((nth ((nth m.funcs k).code) q).a : Int) = at'))) rfl (fun h6 => ?_) (fun h6 => ?_)
          · have h6 := h6
            have hi : insUse at' (nth (nth m.funcs k).code q) = true := h6
            refine vx c [(8, .bool true)] [] AllP.nil (by kernel_rfl) ?_
            exact xret [.lf (.im true (.bool true))] rfl (by kernel_rfl) (retB (mod_fn (by omega) (fn_ins (by omega) hi)))
          · have h6 := h6
            have hi : insUse at' (nth (nth m.funcs k).code q) = false := h6
            refine xw_skip ?_
            exact vxe c [(2, .int at'), (48, .lf (.im true (.sl 6 (m.funcs.map rFn)))), (50, .int ((m.funcs.length : Nat) : Int)), (52, .int ((k : Nat) : Int)), (94, .lf (.im true (.sl 3 (((nth m.funcs k).code).map rIns)))), (96, .int ((((nth m.funcs k).code).length : Nat) : Int)), (98, .int ((q + 1 : Nat) : Int))] [(0, .slot (.int ((q + 1 : Nat) : Int)))] (a2 (wI (a := ((q : Nat) : Int) + 1) (b := ((q + 1 : Nat) : Int)) (by omega) (by omega) (by omega)) AllP.nil) (by kernel_rfl) (⟨_, by omega, (q + 1), rfl, rfl, ⟨by omega, mods_succ (p := fun j => insUse at' (nth (nth m.funcs k).code j) = false) hP3.2 hi⟩⟩)
        · have h5 := of_dF h5
          refine xw_exit ?_
          exact vxe c [(2, .int at'), (48, .lf (.im true (.sl 6 (m.funcs.map rFn)))), (50, .int ((m.funcs.length : Nat) : Int)), (52, .int ((k + 1 : Nat) : Int))] [(0, .slot (.int ((k + 1 : Nat) : Int)))] (a2 (wI (a := ((k : Nat) : Int) + 1) (b := ((k + 1 : Nat) : Int)) (by omega) (by omega) (by omega)) AllP.nil) (by kernel_rfl) (⟨_, by omega, (k + 1), rfl, rfl, ⟨by omega, mods_succ (p := fun j => fnUse at' (nth m.funcs j) = false) hP2.2 (fn_no hh hP3.2 (by omega))⟩⟩)
    · have h3 := of_dF h3
      refine xw_exit ?_
      refine vx c [(8, .bool false)] [] AllP.nil (by kernel_rfl) ?_
      exact xret [.lf (.im true (.bool false))] rfl (by kernel_rfl) (retB (mod_no hP1.2 (by omega) hP2.2 (by omega)))
set_option maxRecDepth 100000 in
theorem impl_ShelfUses_v (a : List Mod) (hs : smallS a) (at' : Int) :
    CallV Tryz.prog 8 [.lf (.im true (.sl 3 (a.map rMod))), .lf (.im true (.int .i64 at'))] (· = .lf (.im true (.sl 1 ((usL a at').map rI)))) := by
  refine CallX (fn := Tryz.f8) TToke mixede Tryz.func8 rfl rfl rfl rfl rfl fun E c => ?_
  have ha := hs.1
  refine vx c [(0, .lf (.im true (.sl 3 (a.map rMod)))), (2, .int at')] [] AllP.nil (by kernel_rfl) ?_
  refine vx c [(0, .lf (.im true (.sl 3 (a.map rMod)))), (2, .int at'), (10, .lf (.u 8 0 3 1 []))] [] AllP.nil (by kernel_rfl) ?_
  refine xw_seq ?_
  refine vxj c [(0, .lf (.im true (.sl 3 (a.map rMod)))), (2, .int at'), (10, .lf (.u 8 0 3 1 [])), (42, .bool ((!(B (Shape a))) || ((decide ((at' : Int) < 0)) || (decide ((at' : Int) ≥ ((a.length : Nat) : Int))))))] (by
      rcases Bool.eq_false_or_eq_true (!(B (Shape a))) with g1 | g1
      · have g1p := of_nT g1
        exact ⟨[(1, .ret (.bool (B (Shape a)))), (2, .slot (.bool true)), (12, .slot (.bool ((!(B (Shape a))) || ((decide ((at' : Int) < 0)) || (decide ((at' : Int) ≥ ((a.length : Nat) : Int)))))))], _, (a2 (cl tx19e (impl_ShelfShape_v a (by assumption))) (a2 (kB g1) (a2 (kB (b := true) (c := ((!(B (Shape a))) || ((decide ((at' : Int) < 0)) || (decide ((at' : Int) ≥ ((a.length : Nat) : Int)))))) (by first | (simp only [g1, Bool.true_or, Bool.false_or, Bool.or_false, Bool.or_true, Bool.true_and, Bool.false_and, Bool.and_true, Bool.and_false, Bool.not_true, Bool.not_false, cond_true, cond_false]; done) | (simp [g1]; done))) AllP.nil))), by kernel_rfl⟩
      · have g1p := of_nF g1
        rcases Bool.eq_false_or_eq_true (decide ((at' : Int) < 0)) with g2 | g2
        · have g2p := of_dT g2
          exact ⟨[(1, .ret (.bool (B (Shape a)))), (2, .slot (.bool false)), (5, .slot (.bool true)), (12, .slot (.bool ((!(B (Shape a))) || ((decide ((at' : Int) < 0)) || (decide ((at' : Int) ≥ ((a.length : Nat) : Int)))))))], _, (a2 (cl tx19e (impl_ShelfShape_v a (by assumption))) (a2 (kB g1) (a2 (kB g2) (a2 (kB (b := true) (c := ((!(B (Shape a))) || ((decide ((at' : Int) < 0)) || (decide ((at' : Int) ≥ ((a.length : Nat) : Int)))))) (by first | (simp only [g1, g2, Bool.true_or, Bool.false_or, Bool.or_false, Bool.or_true, Bool.true_and, Bool.false_and, Bool.and_true, Bool.and_false, Bool.not_true, Bool.not_false, cond_true, cond_false]; done) | (simp [g1, g2]; done))) AllP.nil)))), by kernel_rfl⟩
        · have g2p := of_dF g2
          exact ⟨[(1, .ret (.bool (B (Shape a)))), (2, .slot (.bool false)), (5, .slot (.bool false)), (10, .slot (.int ((a.length : Nat) : Int))), (12, .slot (.bool ((!(B (Shape a))) || ((decide ((at' : Int) < 0)) || (decide ((at' : Int) ≥ ((a.length : Nat) : Int)))))))], _, (a2 (cl tx19e (impl_ShelfShape_v a (by assumption))) (a2 (kB g1) (a2 (kB g2) (a2 (ln (l := a) (f := rMod)) (a2 (kB (b := decide ((at' : Int) ≥ ((a.length : Nat) : Int))) (c := ((!(B (Shape a))) || ((decide ((at' : Int) < 0)) || (decide ((at' : Int) ≥ ((a.length : Nat) : Int)))))) (by first | (simp only [g1, g2, Bool.true_or, Bool.false_or, Bool.or_false, Bool.or_true, Bool.true_and, Bool.false_and, Bool.and_true, Bool.and_false, Bool.not_true, Bool.not_false, cond_true, cond_false]; done) | (simp [g1, g2]; done))) AllP.nil))))), by kernel_rfl⟩) ?_
  refine xw_cond ((!(B (Shape a))) || ((decide ((at' : Int) < 0)) || (decide ((at' : Int) ≥ ((a.length : Nat) : Int))))) rfl (fun h1 => ?_) (fun h1 => ?_)
  · have h1 := h1
    have hin : ¬ inRg a at' := by rintro ⟨q1, q2, q3⟩; simp [B_true q1] at h1; omega
    refine xw_fr 5 [(0, .lf (.im true (.sl 3 (a.map rMod)))), (2, .int at'), (10, .lf (.im true (.sl 1 []))), (42, .bool ((!(B (Shape a))) || ((decide ((at' : Int) < 0)) || (decide ((at' : Int) ≥ ((a.length : Nat) : Int))))))] (by kernel_rfl) ?_
    refine vx c [(8, .lf (.im true (.sl 1 [])))] [] AllP.nil (by kernel_rfl) ?_
    exact xret [.lf (.im true (.sl 1 []))] rfl (by kernel_rfl) (retL (by rw [← usL_no hin]; rfl))
  · have h1 := h1
    have hin : inRg a at' := by simp [B_iff] at h1; exact ⟨h1.1, by omega, by omega⟩
    refine xw_skip ?_
    refine xw_seq ?_
    refine vx c [(2, .int at'), (10, .lf (.u 8 0 3 1 [])), (46, .lf (.im true (.sl 3 (a.map rMod)))), (48, .int ((a.length : Nat) : Int)), (50, .int 0)] [(1, .slot (.int ((a.length : Nat) : Int)))] (a2 (ln (l := a) (f := rMod)) AllP.nil) (by kernel_rfl) ?_
    refine xw_block ?_
    refine xw_loop (fun n L => ∃ (i : Nat), L = [(2, .int at'), (10, .lf (.u 8 0 3 1 ((usTo a at' i).map rI))), (46, .lf (.im true (.sl 3 (a.map rMod)))), (48, .int ((a.length : Nat) : Int)), (50, .int ((i : Nat) : Int))] ∧ n = a.length - i ∧ (i ≤ a.length)) _ ⟨0, rfl, rfl, by omega⟩ ?_
    rintro n L ⟨i, rfl, rfl, hP1⟩
    refine vx c [(2, .int at'), (10, .lf (.u 8 0 3 1 ((usTo a at' i).map rI))), (46, .lf (.im true (.sl 3 (a.map rMod)))), (48, .int ((a.length : Nat) : Int)), (50, .int ((i : Nat) : Int)), (52, .bool (decide ((((i : Nat) : Int) : Int) < ((a.length : Nat) : Int))))] [] AllP.nil (by kernel_rfl) ?_
    refine xw_seq ?_
    refine xw_cond (decide ((((i : Nat) : Int) : Int) < ((a.length : Nat) : Int))) rfl (fun h2 => ?_) (fun h2 => ?_)
    · have h2 := of_dT h2
      refine xw_skip ?_
      refine xw_seq ?_
      refine xw_block ?_
      refine vx c [(2, .int at'), (10, .lf (.u 8 0 3 1 ((usTo a at' i).map rI))), (12, .int ((i : Nat) : Int)), (14, .lf (.ptr 7 0)), (15, .cell 7 [.im true (.sl 2 (((nth a i).records).map rRec)), .im true (.sl 6 (((nth a i).funcs).map rFn)), .im true (.sl 1 (((nth a i).friends).map rI))]), (46, .lf (.im true (.sl 3 (a.map rMod)))), (48, .int ((a.length : Nat) : Int)), (50, .int ((i : Nat) : Int))] [(1, .row (rMod (nth a i)))] (a2 (ix (f := rMod) (l := a) (i := i) (nth_at (l := a) (i := i) (by omega))) AllP.nil) (by kernel_rfl) ?_
      refine vxj c [(2, .int at'), (10, .lf (.u 8 0 3 1 ((usTo a at' i).map rI))), (12, .int ((i : Nat) : Int)), (46, .lf (.im true (.sl 3 (a.map rMod)))), (48, .int ((a.length : Nat) : Int)), (50, .int ((i : Nat) : Int)), (74, .bool ((decide ((((i : Nat) : Int) : Int) ≠ at')) && (modUse at' (nth a i))))] (by
          rcases Bool.eq_false_or_eq_true (decide ((((i : Nat) : Int) : Int) ≠ at')) with g3 | g3
          · have g3p := of_dT g3
            exact ⟨[(2, .slot (.bool true)), (6, .ret (.bool (modUse at' (nth a i)))), (7, .slot (.bool ((decide ((((i : Nat) : Int) : Int) ≠ at')) && (modUse at' (nth a i)))))], _, (a2 (kB g3) (a2 (cl tx26e (impl_usesModule_v (nth a i) (by exact hs.2 _ (nth_mem (l := a) (i := i) (by omega))) at')) (a2 (kB (b := modUse at' (nth a i)) (c := ((decide ((((i : Nat) : Int) : Int) ≠ at')) && (modUse at' (nth a i)))) (by first | (simp only [g3, Bool.true_or, Bool.false_or, Bool.or_false, Bool.or_true, Bool.true_and, Bool.false_and, Bool.and_true, Bool.and_false, Bool.not_true, Bool.not_false, cond_true, cond_false]; done) | (simp [g3]; done))) AllP.nil))), by kernel_rfl⟩
          · have g3p := of_dF g3
            exact ⟨[(2, .slot (.bool false)), (7, .slot (.bool ((decide ((((i : Nat) : Int) : Int) ≠ at')) && (modUse at' (nth a i)))))], _, (a2 (kB g3) (a2 (kB (b := false) (c := ((decide ((((i : Nat) : Int) : Int) ≠ at')) && (modUse at' (nth a i)))) (by first | (simp only [g3, Bool.true_or, Bool.false_or, Bool.or_false, Bool.or_true, Bool.true_and, Bool.false_and, Bool.and_true, Bool.and_false, Bool.not_true, Bool.not_false, cond_true, cond_false]; done) | (simp [g3]; done))) AllP.nil)), by kernel_rfl⟩) ?_
      refine xw_cond ((decide ((((i : Nat) : Int) : Int) ≠ at')) && (modUse at' (nth a i))) rfl (fun h3 => ?_) (fun h3 => ?_)
      · have h3 := h3
        have hq : usQ a at' i = true := by simpa [usQ] using h3
        have hul := usTo_len a at' i
        refine vxe c [(2, .int at'), (10, .lf (.u 8 0 3 1 ((usTo a at' (i + 1)).map rI))), (46, .lf (.im true (.sl 3 (a.map rMod)))), (48, .int ((a.length : Nat) : Int)), (50, .int ((i : Nat) : Int))] [(2, .im), (3, .slot (.lf (.u 8 0 3 1 ((usTo a at' (i + 1)).map rI))))] (a2 (a1 (show (((usTo a at' i).map rI) ++ [[.int .i64 ((i : Nat) : Int)]] : List (List SV)) = (usTo a at' (i + 1)).map rI by exact usTo_yes hq)) (a2 (hl (((usTo a at' i).map rI).length)) (a2 (ap (a := ((usTo a at' i).map rI : List (List SV)).length + ([[.int .i64 ((i : Nat) : Int)]] : List (List SV)).length) (b := 8) (by simp; omega) (by unfold maxLen; simp; omega)) AllP.nil))) (by kernel_rfl) ?_
        exact vxe c [(2, .int at'), (10, .lf (.u 8 0 3 1 ((usTo a at' (i + 1)).map rI))), (46, .lf (.im true (.sl 3 (a.map rMod)))), (48, .int ((a.length : Nat) : Int)), (50, .int ((i + 1 : Nat) : Int))] [(0, .slot (.int ((i + 1 : Nat) : Int)))] (a2 (wI (a := ((i : Nat) : Int) + 1) (b := ((i + 1 : Nat) : Int)) (by omega) (by omega) (by omega)) AllP.nil) (by kernel_rfl) (⟨_, by omega, (i + 1), rfl, rfl, by omega⟩)
      · have h3 := h3
        have hq : usQ a at' i = false := by simpa [usQ] using h3
        refine xw_skip ?_
        rw [show usTo a at' i = usTo a at' (i + 1) from usTo_no hq]
        exact vxe c [(2, .int at'), (10, .lf (.u 8 0 3 1 ((usTo a at' (i + 1)).map rI))), (46, .lf (.im true (.sl 3 (a.map rMod)))), (48, .int ((a.length : Nat) : Int)), (50, .int ((i + 1 : Nat) : Int))] [(0, .slot (.int ((i + 1 : Nat) : Int)))] (a2 (wI (a := ((i : Nat) : Int) + 1) (b := ((i + 1 : Nat) : Int)) (by omega) (by omega) (by omega)) AllP.nil) (by kernel_rfl) (⟨_, by omega, (i + 1), rfl, rfl, by omega⟩)
    · have h2 := of_dF h2
      refine xw_exit ?_
      refine xw_fr 5 [(2, .int at'), (10, .lf (.im true (.sl 1 ((usTo a at' i).map rI)))), (46, .lf (.im true (.sl 3 (a.map rMod)))), (48, .int ((a.length : Nat) : Int)), (50, .int ((i : Nat) : Int)), (52, .bool (decide ((((i : Nat) : Int) : Int) < ((a.length : Nat) : Int))))] (by kernel_rfl) ?_
      refine vx c [(8, .lf (.im true (.sl 1 ((usTo a at' i).map rI))))] [(1, .ret (.lf (.im true (.sl 1 ((usTo a at' i).map rI)))))] (a2 (cl tx27e (clip_rI (usTo a at' i))) AllP.nil) (by kernel_rfl) ?_
      exact xret [.lf (.im true (.sl 1 ((usTo a at' i).map rI)))] rfl (by kernel_rfl) (retL (by rw [usL_yes hin (by omega)]))
set_option maxRecDepth 100000 in
theorem indexFuncL (l : List ByteArray) (ha : l.length ≤ 140737488355328) (at' : Int) :
    CallV Tryz.prog 111 [.lf (.im false (.sl 1 (l.map rS))), .lf (.im true (.fn 89 [.int .i64 at']))] (· = .int (idxF (nmB at') l)) := by
  refine CallX (fn := Tryz.f111) TToke mixede Tryz.func111 rfl rfl rfl rfl rfl fun E c => ?_
  refine vx c [(0, .lf (.im false (.sl 1 (l.map rS)))), (2, .lf (.im true (.fn 89 [.int .i64 at'])))] [] AllP.nil (by kernel_rfl) ?_
  refine xw_seq ?_
  refine vx c [(0, .lf (.im false (.sl 1 (l.map rS)))), (2, .lf (.im true (.fn 89 [.int .i64 at']))), (14, .int ((l.length : Nat) : Int)), (16, .int 0)] [(1, .slot (.int ((l.length : Nat) : Int)))] (a2 (ln (l := l) (f := rS)) AllP.nil) (by kernel_rfl) ?_
  refine xw_block ?_
  refine xw_loop (fun n L => ∃ (i : Nat), L = [(0, .lf (.im false (.sl 1 (l.map rS)))), (2, .lf (.im true (.fn 89 [.int .i64 at']))), (14, .int ((l.length : Nat) : Int)), (16, .int ((i : Nat) : Int))] ∧ n = l.length - i ∧ (i ≤ l.length ∧ ∀ j, j < i → nmB at' (nth l j) = false)) _ ⟨0, rfl, rfl, ⟨by omega, fun j hj => by omega⟩⟩ ?_
  rintro n L ⟨i, rfl, rfl, hP1⟩
  refine vx c [(0, .lf (.im false (.sl 1 (l.map rS)))), (2, .lf (.im true (.fn 89 [.int .i64 at']))), (14, .int ((l.length : Nat) : Int)), (16, .int ((i : Nat) : Int)), (18, .bool (decide ((((i : Nat) : Int) : Int) < ((l.length : Nat) : Int))))] [] AllP.nil (by kernel_rfl) ?_
  refine xw_seq ?_
  refine xw_cond (decide ((((i : Nat) : Int) : Int) < ((l.length : Nat) : Int))) rfl (fun h1 => ?_) (fun h1 => ?_)
  · have h1 := of_dT h1
    refine xw_skip ?_
    refine xw_seq ?_
    refine xw_block ?_
    refine vx c [(0, .lf (.im false (.sl 1 (l.map rS)))), (2, .lf (.im true (.fn 89 [.int .i64 at']))), (10, .int ((i : Nat) : Int)), (14, .int ((l.length : Nat) : Int)), (16, .int ((i : Nat) : Int))] [] AllP.nil (by kernel_rfl) ?_
    refine vx c [(0, .lf (.im false (.sl 1 (l.map rS)))), (2, .lf (.im true (.fn 89 [.int .i64 at']))), (10, .int ((i : Nat) : Int)), (14, .int ((l.length : Nat) : Int)), (16, .int ((i : Nat) : Int)), (32, .bool (nmB at' (nth l i)))] [(3, .row (rS (nth l i))), (5, .ret (.bool (nmB at' (nth l i))))] (a2 (ix (f := rS) (l := l) (i := i) (nth_at (l := l) (i := i) (by omega))) (a2 (cl tx89e (closure (nth l i) at')) AllP.nil)) (by kernel_rfl) ?_
    refine xw_cond (nmB at' (nth l i)) rfl (fun h2 => ?_) (fun h2 => ?_)
    · have h2 := h2
      refine vx c [(8, .int ((i : Nat) : Int))] [] AllP.nil (by kernel_rfl) ?_
      exact xret [.lf (.im true (.int .i64 ((i : Nat) : Int)))] rfl (by kernel_rfl) (retI (idx_at (by omega) hP1.2 h2))
    · have h2 := h2
      refine xw_skip ?_
      exact vxe c [(0, .lf (.im false (.sl 1 (l.map rS)))), (2, .lf (.im true (.fn 89 [.int .i64 at']))), (14, .int ((l.length : Nat) : Int)), (16, .int ((i + 1 : Nat) : Int))] [(0, .slot (.int ((i + 1 : Nat) : Int)))] (a2 (wI (a := ((i : Nat) : Int) + 1) (b := ((i + 1 : Nat) : Int)) (by omega) (by omega) (by omega)) AllP.nil) (by kernel_rfl) (⟨_, by omega, (i + 1), rfl, rfl, ⟨by omega, mods_succ (p := fun j => nmB at' (nth l j) = false) hP1.2 h2⟩⟩)
  · have h1 := of_dF h1
    refine xw_exit ?_
    refine vx c [(8, .int (-1))] [] AllP.nil (by kernel_rfl) ?_
    exact xret [.lf (.im true (.int .i64 (-1)))] rfl (by kernel_rfl) (retI (idx_none hP1.2 (by omega)))
set_option maxRecDepth 100000 in
theorem containsFuncL (l : List ByteArray) (ha : l.length ≤ 140737488355328) (at' : Int) :
    CallV Tryz.prog 88 [.lf (.im false (.sl 1 (l.map rS))), .lf (.im true (.fn 89 [.int .i64 at']))] (· = .bool (l.any (nmB at'))) := by
  refine CallX (fn := Tryz.f88) TToke mixede Tryz.func88 rfl rfl rfl rfl rfl fun E c => ?_
  refine vx c [(0, .lf (.im false (.sl 1 (l.map rS)))), (2, .lf (.im true (.fn 89 [.int .i64 at'])))] [] AllP.nil (by kernel_rfl) ?_
  refine vx c [(8, .bool (decide ((idxF (nmB at') l : Int) ≥ 0)))] [(2, .ret (.int (idxF (nmB at') l)))] (a2 (cl tx111e (indexFuncL l (by assumption) at')) AllP.nil) (by kernel_rfl) ?_
  exact xret [.lf (.im true (.bool (decide ((idxF (nmB at') l : Int) ≥ 0))))] rfl (by kernel_rfl) (retB (idx_ge _ _))
set_option maxRecDepth 100000 in
theorem impl_namesModule_vL (l : List ByteArray) (ha : l.length ≤ 140737488355328) (at' : Int) :
    CallV Tryz.prog 57 [.lf (.im false (.sl 1 (l.map rS))), .lf (.im true (.int .i64 at'))] (· = .bool (l.any (nmB at'))) := by
  refine CallX (fn := Tryz.f57) TToke mixede Tryz.func57 rfl rfl rfl rfl rfl fun E c => ?_
  refine vx c [(0, .lf (.im false (.sl 1 (l.map rS)))), (6, .lf (.ptr 3 0)), (7, .cell 3 [.im true (.int .i64 at')])] [] AllP.nil (by kernel_rfl) ?_
  refine vx c [(8, .bool (l.any (nmB at')))] [(2, .ret (.bool (l.any (nmB at'))))] (a2 (cl tx88e (containsFuncL l (by assumption) at')) AllP.nil) (by kernel_rfl) ?_
  exact xret [.lf (.im true (.bool (l.any (nmB at'))))] rfl (by kernel_rfl) (rfl)
set_option maxRecDepth 100000 in
theorem impl_usesModule_vL (m : Mod) (hm : m.small) (at' : Int) :
    CallV Tryz.prog 26 [.agg [.im false (.sl 2 (m.records.map rRec)), .im false (.sl 6 (m.funcs.map rFn)), .im false (.sl 1 (m.friends.map rI))], .lf (.im true (.int .i64 at'))] (· = .bool (modUse at' m)) := by
  refine CallX (fn := Tryz.f26) TToke mixede Tryz.func26 rfl rfl rfl rfl rfl fun E c => ?_
  obtain ⟨⟨b1, b2⟩, ⟨b3, b4⟩, b5⟩ := hm
  refine vx c [(2, .int at'), (4, .lf (.ptr 2 0)), (5, .cell 2 [.im false (.sl 2 (m.records.map rRec)), .im false (.sl 6 (m.funcs.map rFn)), .im false (.sl 1 (m.friends.map rI))])] [] AllP.nil (by kernel_rfl) ?_
  refine xw_seq ?_
  refine vx c [(2, .int at'), (4, .lf (.ptr 2 0)), (5, .cell 2 [.im false (.sl 2 (m.records.map rRec)), .im false (.sl 6 (m.funcs.map rFn)), .im false (.sl 1 (m.friends.map rI))]), (24, .lf (.im false (.sl 2 (m.records.map rRec)))), (26, .int ((m.records.length : Nat) : Int)), (28, .int 0)] [(2, .slot (.int ((m.records.length : Nat) : Int)))] (a2 (ln (l := m.records) (f := rRec)) AllP.nil) (by kernel_rfl) ?_
  refine xw_block ?_
  refine xw_loop (fun n L => ∃ (i : Nat), L = [(2, .int at'), (4, .lf (.ptr 2 0)), (5, .cell 2 [.im false (.sl 2 (m.records.map rRec)), .im false (.sl 6 (m.funcs.map rFn)), .im false (.sl 1 (m.friends.map rI))]), (24, .lf (.im false (.sl 2 (m.records.map rRec)))), (26, .int ((m.records.length : Nat) : Int)), (28, .int ((i : Nat) : Int))] ∧ n = m.records.length - i ∧ (i ≤ m.records.length ∧ ∀ j, j < i → recUse at' (nth m.records j) = false)) _ ⟨0, rfl, rfl, ⟨by omega, fun j hj => by omega⟩⟩ ?_
  rintro n L ⟨i, rfl, rfl, hP1⟩
  refine vx c [(2, .int at'), (4, .lf (.ptr 2 0)), (5, .cell 2 [.im false (.sl 2 (m.records.map rRec)), .im false (.sl 6 (m.funcs.map rFn)), .im false (.sl 1 (m.friends.map rI))]), (24, .lf (.im false (.sl 2 (m.records.map rRec)))), (26, .int ((m.records.length : Nat) : Int)), (28, .int ((i : Nat) : Int)), (30, .bool (decide ((((i : Nat) : Int) : Int) < ((m.records.length : Nat) : Int))))] [] AllP.nil (by kernel_rfl) ?_
  refine xw_seq ?_
  refine xw_cond (decide ((((i : Nat) : Int) : Int) < ((m.records.length : Nat) : Int))) rfl (fun h1 => ?_) (fun h1 => ?_)
  · have h1 := of_dT h1
    refine xw_skip ?_
    refine xw_seq ?_
    refine xw_block ?_
    refine vx c [(2, .int at'), (4, .lf (.ptr 2 0)), (5, .cell 2 [.im false (.sl 2 (m.records.map rRec)), .im false (.sl 6 (m.funcs.map rFn)), .im false (.sl 1 (m.friends.map rI))]), (12, .lf (.ptr 6 0)), (13, .cell 6 [.im true (.int .i64 ((nth m.records i).able)), .im false (.sl 1 (((nth m.records i).fields).map rS))]), (24, .lf (.im false (.sl 2 (m.records.map rRec)))), (26, .int ((m.records.length : Nat) : Int)), (28, .int ((i : Nat) : Int))] [(0, .row (rRec (nth m.records i)))] (a2 (ix (f := rRec) (l := m.records) (i := i) (nth_at (l := m.records) (i := i) (by omega))) AllP.nil) (by kernel_rfl) ?_
    refine vx c [(2, .int at'), (4, .lf (.ptr 2 0)), (5, .cell 2 [.im false (.sl 2 (m.records.map rRec)), .im false (.sl 6 (m.funcs.map rFn)), .im false (.sl 1 (m.friends.map rI))]), (24, .lf (.im false (.sl 2 (m.records.map rRec)))), (26, .int ((m.records.length : Nat) : Int)), (28, .int ((i : Nat) : Int)), (42, .bool (((nth m.records i).fields).any (nmB at')))] [(3, .ret (.bool (((nth m.records i).fields).any (nmB at'))))] (a2 (cl tx57e (impl_namesModule_vL ((nth m.records i).fields) (by first | (have := b2 _ (nth_mem (l := m.records) (i := i) (by omega)); unfold Rec.small at this; omega) | (have := b4 _ (nth_mem (l := m.funcs) (i := k) (by omega)); unfold Fn.small at this; omega)) at')) AllP.nil) (by kernel_rfl) ?_
    refine xw_cond (((nth m.records i).fields).any (nmB at')) rfl (fun h2 => ?_) (fun h2 => ?_)
    · have h2 := h2
      refine vx c [(8, .bool true)] [] AllP.nil (by kernel_rfl) ?_
      exact xret [.lf (.im true (.bool true))] rfl (by kernel_rfl) (retB (mod_rec (by omega) h2))
    · have h2 := h2
      refine xw_skip ?_
      exact vxe c [(2, .int at'), (4, .lf (.ptr 2 0)), (5, .cell 2 [.im false (.sl 2 (m.records.map rRec)), .im false (.sl 6 (m.funcs.map rFn)), .im false (.sl 1 (m.friends.map rI))]), (24, .lf (.im false (.sl 2 (m.records.map rRec)))), (26, .int ((m.records.length : Nat) : Int)), (28, .int ((i + 1 : Nat) : Int))] [(0, .slot (.int ((i + 1 : Nat) : Int)))] (a2 (wI (a := ((i : Nat) : Int) + 1) (b := ((i + 1 : Nat) : Int)) (by omega) (by omega) (by omega)) AllP.nil) (by kernel_rfl) (⟨_, by omega, (i + 1), rfl, rfl, ⟨by omega, mods_succ (p := fun j => recUse at' (nth m.records j) = false) hP1.2 h2⟩⟩)
  · have h1 := of_dF h1
    refine xw_exit ?_
    refine xw_seq ?_
    refine vx c [(2, .int at'), (48, .lf (.im false (.sl 6 (m.funcs.map rFn)))), (50, .int ((m.funcs.length : Nat) : Int)), (52, .int 0)] [(2, .slot (.int ((m.funcs.length : Nat) : Int)))] (a2 (ln (l := m.funcs) (f := rFn)) AllP.nil) (by kernel_rfl) ?_
    refine xw_block ?_
    refine xw_loop (fun n L => ∃ (k : Nat), L = [(2, .int at'), (48, .lf (.im false (.sl 6 (m.funcs.map rFn)))), (50, .int ((m.funcs.length : Nat) : Int)), (52, .int ((k : Nat) : Int))] ∧ n = m.funcs.length - k ∧ (k ≤ m.funcs.length ∧ ∀ j, j < k → fnUse at' (nth m.funcs j) = false)) _ ⟨0, rfl, rfl, ⟨by omega, fun j hj => by omega⟩⟩ ?_
    rintro n L ⟨k, rfl, rfl, hP2⟩
    refine vx c [(2, .int at'), (48, .lf (.im false (.sl 6 (m.funcs.map rFn)))), (50, .int ((m.funcs.length : Nat) : Int)), (52, .int ((k : Nat) : Int)), (54, .bool (decide ((((k : Nat) : Int) : Int) < ((m.funcs.length : Nat) : Int))))] [] AllP.nil (by kernel_rfl) ?_
    refine xw_seq ?_
    refine xw_cond (decide ((((k : Nat) : Int) : Int) < ((m.funcs.length : Nat) : Int))) rfl (fun h3 => ?_) (fun h3 => ?_)
    · have h3 := of_dT h3
      have hfs := b4 _ (nth_mem (l := m.funcs) (i := k) (by omega))
      unfold Fn.small at hfs
      refine xw_skip ?_
      refine xw_seq ?_
      refine xw_block ?_
      refine vx c [(2, .int at'), (16, .lf (.ptr 8 0)), (17, .cell 8 [.im true (.int .i64 ((nth m.funcs k).seen)), .im false (.sl 1 (((nth m.funcs k).args).map rS)), .im false (.sl 1 (((nth m.funcs k).rets).map rS)), .im false (.sl 1 (((nth m.funcs k).locals).map rS)), .im false (.sl 1 (((nth m.funcs k).takes).map rI)), .im false (.sl 3 (((nth m.funcs k).code).map rIns))]), (48, .lf (.im false (.sl 6 (m.funcs.map rFn)))), (50, .int ((m.funcs.length : Nat) : Int)), (52, .int ((k : Nat) : Int))] [(0, .row (rFn (nth m.funcs k)))] (a2 (ix (f := rFn) (l := m.funcs) (i := k) (nth_at (l := m.funcs) (i := k) (by omega))) AllP.nil) (by kernel_rfl) ?_
      refine xw_seq ?_
      refine vxj c [(2, .int at'), (16, .lf (.ptr 8 0)), (17, .cell 8 [.im true (.int .i64 ((nth m.funcs k).seen)), .im false (.sl 1 (((nth m.funcs k).args).map rS)), .im false (.sl 1 (((nth m.funcs k).rets).map rS)), .im false (.sl 1 (((nth m.funcs k).locals).map rS)), .im false (.sl 1 (((nth m.funcs k).takes).map rI)), .im false (.sl 3 (((nth m.funcs k).code).map rIns))]), (48, .lf (.im false (.sl 6 (m.funcs.map rFn)))), (50, .int ((m.funcs.length : Nat) : Int)), (52, .int ((k : Nat) : Int)), (90, .bool ((((nth m.funcs k).args).any (nmB at')) || ((((nth m.funcs k).rets).any (nmB at')) || (((nth m.funcs k).locals).any (nmB at')))))] (by
          rcases Bool.eq_false_or_eq_true (((nth m.funcs k).args).any (nmB at')) with g1 | g1
          · exact ⟨[(3, .ret (.bool (((nth m.funcs k).args).any (nmB at')))), (4, .slot (.bool true)), (15, .slot (.bool ((((nth m.funcs k).args).any (nmB at')) || ((((nth m.funcs k).rets).any (nmB at')) || (((nth m.funcs k).locals).any (nmB at'))))))], _, (a2 (cl tx57e (impl_namesModule_vL ((nth m.funcs k).args) (by first | (have := b2 _ (nth_mem (l := m.records) (i := i) (by omega)); unfold Rec.small at this; omega) | (have := b4 _ (nth_mem (l := m.funcs) (i := k) (by omega)); unfold Fn.small at this; omega)) at')) (a2 (kB g1) (a2 (kB (b := true) (c := ((((nth m.funcs k).args).any (nmB at')) || ((((nth m.funcs k).rets).any (nmB at')) || (((nth m.funcs k).locals).any (nmB at'))))) (by first | (simp only [g1, Bool.true_or, Bool.false_or, Bool.or_false, Bool.or_true, Bool.true_and, Bool.false_and, Bool.and_true, Bool.and_false, Bool.not_true, Bool.not_false, cond_true, cond_false]; done) | (simp [g1]; done))) AllP.nil))), by kernel_rfl⟩
          · rcases Bool.eq_false_or_eq_true (((nth m.funcs k).rets).any (nmB at')) with g2 | g2
            · exact ⟨[(3, .ret (.bool (((nth m.funcs k).args).any (nmB at')))), (4, .slot (.bool false)), (8, .ret (.bool (((nth m.funcs k).rets).any (nmB at')))), (9, .slot (.bool true)), (15, .slot (.bool ((((nth m.funcs k).args).any (nmB at')) || ((((nth m.funcs k).rets).any (nmB at')) || (((nth m.funcs k).locals).any (nmB at'))))))], _, (a2 (cl tx57e (impl_namesModule_vL ((nth m.funcs k).args) (by first | (have := b2 _ (nth_mem (l := m.records) (i := i) (by omega)); unfold Rec.small at this; omega) | (have := b4 _ (nth_mem (l := m.funcs) (i := k) (by omega)); unfold Fn.small at this; omega)) at')) (a2 (kB g1) (a2 (cl tx57e (impl_namesModule_vL ((nth m.funcs k).rets) (by first | (have := b2 _ (nth_mem (l := m.records) (i := i) (by omega)); unfold Rec.small at this; omega) | (have := b4 _ (nth_mem (l := m.funcs) (i := k) (by omega)); unfold Fn.small at this; omega)) at')) (a2 (kB g2) (a2 (kB (b := true) (c := ((((nth m.funcs k).args).any (nmB at')) || ((((nth m.funcs k).rets).any (nmB at')) || (((nth m.funcs k).locals).any (nmB at'))))) (by first | (simp only [g1, g2, Bool.true_or, Bool.false_or, Bool.or_false, Bool.or_true, Bool.true_and, Bool.false_and, Bool.and_true, Bool.and_false, Bool.not_true, Bool.not_false, cond_true, cond_false]; done) | (simp [g1, g2]; done))) AllP.nil))))), by kernel_rfl⟩
            · exact ⟨[(3, .ret (.bool (((nth m.funcs k).args).any (nmB at')))), (4, .slot (.bool false)), (8, .ret (.bool (((nth m.funcs k).rets).any (nmB at')))), (9, .slot (.bool false)), (14, .ret (.bool (((nth m.funcs k).locals).any (nmB at')))), (15, .slot (.bool ((((nth m.funcs k).args).any (nmB at')) || ((((nth m.funcs k).rets).any (nmB at')) || (((nth m.funcs k).locals).any (nmB at'))))))], _, (a2 (cl tx57e (impl_namesModule_vL ((nth m.funcs k).args) (by first | (have := b2 _ (nth_mem (l := m.records) (i := i) (by omega)); unfold Rec.small at this; omega) | (have := b4 _ (nth_mem (l := m.funcs) (i := k) (by omega)); unfold Fn.small at this; omega)) at')) (a2 (kB g1) (a2 (cl tx57e (impl_namesModule_vL ((nth m.funcs k).rets) (by first | (have := b2 _ (nth_mem (l := m.records) (i := i) (by omega)); unfold Rec.small at this; omega) | (have := b4 _ (nth_mem (l := m.funcs) (i := k) (by omega)); unfold Fn.small at this; omega)) at')) (a2 (kB g2) (a2 (cl tx57e (impl_namesModule_vL ((nth m.funcs k).locals) (by first | (have := b2 _ (nth_mem (l := m.records) (i := i) (by omega)); unfold Rec.small at this; omega) | (have := b4 _ (nth_mem (l := m.funcs) (i := k) (by omega)); unfold Fn.small at this; omega)) at')) (a2 (kB (b := ((nth m.funcs k).locals).any (nmB at')) (c := ((((nth m.funcs k).args).any (nmB at')) || ((((nth m.funcs k).rets).any (nmB at')) || (((nth m.funcs k).locals).any (nmB at'))))) (by first | (simp only [g1, g2, Bool.true_or, Bool.false_or, Bool.or_false, Bool.or_true, Bool.true_and, Bool.false_and, Bool.and_true, Bool.and_false, Bool.not_true, Bool.not_false, cond_true, cond_false]; done) | (simp [g1, g2]; done))) AllP.nil)))))), by kernel_rfl⟩) ?_
      refine xw_cond ((((nth m.funcs k).args).any (nmB at')) || ((((nth m.funcs k).rets).any (nmB at')) || (((nth m.funcs k).locals).any (nmB at')))) rfl (fun h4 => ?_) (fun h4 => ?_)
      · have h4 := h4
        have hh : fnHead at' (nth m.funcs k) = true := by simpa [fnHead, Bool.or_assoc] using h4
        refine vx c [(8, .bool true)] [] AllP.nil (by kernel_rfl) ?_
        exact xret [.lf (.im true (.bool true))] rfl (by kernel_rfl) (retB (mod_fn (by omega) (fn_head hh)))
      · have h4 := h4
        have hh : fnHead at' (nth m.funcs k) = false := by simpa [fnHead, Bool.or_assoc] using h4
        refine xw_skip ?_
        refine vx c [(2, .int at'), (48, .lf (.im false (.sl 6 (m.funcs.map rFn)))), (50, .int ((m.funcs.length : Nat) : Int)), (52, .int ((k : Nat) : Int)), (94, .lf (.im false (.sl 3 (((nth m.funcs k).code).map rIns)))), (96, .int ((((nth m.funcs k).code).length : Nat) : Int)), (98, .int 0)] [(2, .slot (.int ((((nth m.funcs k).code).length : Nat) : Int)))] (a2 (ln (l := (nth m.funcs k).code) (f := rIns)) AllP.nil) (by kernel_rfl) ?_
        refine xw_block ?_
        refine xw_loop (fun n L => ∃ (q : Nat), L = [(2, .int at'), (48, .lf (.im false (.sl 6 (m.funcs.map rFn)))), (50, .int ((m.funcs.length : Nat) : Int)), (52, .int ((k : Nat) : Int)), (94, .lf (.im false (.sl 3 (((nth m.funcs k).code).map rIns)))), (96, .int ((((nth m.funcs k).code).length : Nat) : Int)), (98, .int ((q : Nat) : Int))] ∧ n = (nth m.funcs k).code.length - q ∧ (q ≤ (nth m.funcs k).code.length ∧ ∀ j, j < q → insUse at' (nth (nth m.funcs k).code j) = false)) _ ⟨0, rfl, rfl, ⟨by omega, fun j hj => by omega⟩⟩ ?_
        rintro n L ⟨q, rfl, rfl, hP3⟩
        refine vx c [(2, .int at'), (48, .lf (.im false (.sl 6 (m.funcs.map rFn)))), (50, .int ((m.funcs.length : Nat) : Int)), (52, .int ((k : Nat) : Int)), (94, .lf (.im false (.sl 3 (((nth m.funcs k).code).map rIns)))), (96, .int ((((nth m.funcs k).code).length : Nat) : Int)), (98, .int ((q : Nat) : Int)), (100, .bool (decide ((((q : Nat) : Int) : Int) < ((((nth m.funcs k).code).length : Nat) : Int))))] [] AllP.nil (by kernel_rfl) ?_
        refine xw_seq ?_
        refine xw_cond (decide ((((q : Nat) : Int) : Int) < ((((nth m.funcs k).code).length : Nat) : Int))) rfl (fun h5 => ?_) (fun h5 => ?_)
        · have h5 := of_dT h5
          refine xw_skip ?_
          refine xw_seq ?_
          refine xw_block ?_
          refine vx c [(2, .int at'), (20, .lf (.ptr 10 0)), (21, .cell 10 [.im true (.str ((nth ((nth m.funcs k).code) q).op)), .im true (.int .i64 ((nth ((nth m.funcs k).code) q).a)), .im true (.int .i64 ((nth ((nth m.funcs k).code) q).b))]), (48, .lf (.im false (.sl 6 (m.funcs.map rFn)))), (50, .int ((m.funcs.length : Nat) : Int)), (52, .int ((k : Nat) : Int)), (94, .lf (.im false (.sl 3 (((nth m.funcs k).code).map rIns)))), (96, .int ((((nth m.funcs k).code).length : Nat) : Int)), (98, .int ((q : Nat) : Int))] [(0, .row (rIns (nth ((nth m.funcs k).code) q)))] (a2 (ix (f := rIns) (l := (nth m.funcs k).code) (i := q) (nth_at (l := (nth m.funcs k).code) (i := q) (by omega))) AllP.nil) (by kernel_rfl) ?_
          refine vxj c [(2, .int at'), (48, .lf (.im false (.sl 6 (m.funcs.map rFn)))), (50, .int ((m.funcs.length : Nat) : Int)), (52, .int ((k : Nat) : Int)), (94, .lf (.im false (.sl 3 (((nth m.funcs k).code).map rIns)))), (96, .int ((((nth m.funcs k).code).length : Nat) : Int)), (98, .int ((q : Nat) : Int)), (122, .bool ((((nth ((nth m.funcs k).code) q).op).toList == (⟨#[99, 97, 108, 108]⟩ : ByteArray).toList) && (decide (((nth ((nth m.funcs k).code) q).a : Int) = at'))))] (by
              rcases Bool.eq_false_or_eq_true (((nth ((nth m.funcs k).code) q).op).toList == (⟨#[99, 97, 108, 108]⟩ : ByteArray).toList) with g3 | g3
              · exact ⟨[(2, .slot (.bool true)), (8, .slot (.bool ((((nth ((nth m.funcs k).code) q).op).toList == (⟨#[99, 97, 108, 108]⟩ : ByteArray).toList) && (decide (((nth ((nth m.funcs k).code) q).a : Int) = at')))))], _, (a2 (kB g3) (a2 (kB (b := decide (((nth ((nth m.funcs k).code) q).a : Int) = at')) (c := ((((nth ((nth m.funcs k).code) q).op).toList == (⟨#[99, 97, 108, 108]⟩ : ByteArray).toList) && (decide (((nth ((nth m.funcs k).code) q).a : Int) = at')))) (by first | (simp only [g3, Bool.true_or, Bool.false_or, Bool.or_false, Bool.or_true, Bool.true_and, Bool.false_and, Bool.and_true, Bool.and_false, Bool.not_true, Bool.not_false, cond_true, cond_false]; done) | (simp [g3]; done))) AllP.nil)), by kernel_rfl⟩
              · exact ⟨[(2, .slot (.bool false)), (8, .slot (.bool ((((nth ((nth m.funcs k).code) q).op).toList == (⟨#[99, 97, 108, 108]⟩ : ByteArray).toList) && (decide (((nth ((nth m.funcs k).code) q).a : Int) = at')))))], _, (a2 (kB g3) (a2 (kB (b := false) (c := ((((nth ((nth m.funcs k).code) q).op).toList == (⟨#[99, 97, 108, 108]⟩ : ByteArray).toList) && (decide (((nth ((nth m.funcs k).code) q).a : Int) = at')))) (by first | (simp only [g3, Bool.true_or, Bool.false_or, Bool.or_false, Bool.or_true, Bool.true_and, Bool.false_and, Bool.and_true, Bool.and_false, Bool.not_true, Bool.not_false, cond_true, cond_false]; done) | (simp [g3]; done))) AllP.nil)), by kernel_rfl⟩) ?_
          refine xw_cond ((((nth ((nth m.funcs k).code) q).op).toList == (⟨#[99, 97, 108, 108]⟩ : ByteArray).toList) && (decide (((nth ((nth m.funcs k).code) q).a : Int) = at'))) rfl (fun h6 => ?_) (fun h6 => ?_)
          · have h6 := h6
            have hi : insUse at' (nth (nth m.funcs k).code q) = true := h6
            refine vx c [(8, .bool true)] [] AllP.nil (by kernel_rfl) ?_
            exact xret [.lf (.im true (.bool true))] rfl (by kernel_rfl) (retB (mod_fn (by omega) (fn_ins (by omega) hi)))
          · have h6 := h6
            have hi : insUse at' (nth (nth m.funcs k).code q) = false := h6
            refine xw_skip ?_
            exact vxe c [(2, .int at'), (48, .lf (.im false (.sl 6 (m.funcs.map rFn)))), (50, .int ((m.funcs.length : Nat) : Int)), (52, .int ((k : Nat) : Int)), (94, .lf (.im false (.sl 3 (((nth m.funcs k).code).map rIns)))), (96, .int ((((nth m.funcs k).code).length : Nat) : Int)), (98, .int ((q + 1 : Nat) : Int))] [(0, .slot (.int ((q + 1 : Nat) : Int)))] (a2 (wI (a := ((q : Nat) : Int) + 1) (b := ((q + 1 : Nat) : Int)) (by omega) (by omega) (by omega)) AllP.nil) (by kernel_rfl) (⟨_, by omega, (q + 1), rfl, rfl, ⟨by omega, mods_succ (p := fun j => insUse at' (nth (nth m.funcs k).code j) = false) hP3.2 hi⟩⟩)
        · have h5 := of_dF h5
          refine xw_exit ?_
          exact vxe c [(2, .int at'), (48, .lf (.im false (.sl 6 (m.funcs.map rFn)))), (50, .int ((m.funcs.length : Nat) : Int)), (52, .int ((k + 1 : Nat) : Int))] [(0, .slot (.int ((k + 1 : Nat) : Int)))] (a2 (wI (a := ((k : Nat) : Int) + 1) (b := ((k + 1 : Nat) : Int)) (by omega) (by omega) (by omega)) AllP.nil) (by kernel_rfl) (⟨_, by omega, (k + 1), rfl, rfl, ⟨by omega, mods_succ (p := fun j => fnUse at' (nth m.funcs j) = false) hP2.2 (fn_no hh hP3.2 (by omega))⟩⟩)
    · have h3 := of_dF h3
      refine xw_exit ?_
      refine vx c [(8, .bool false)] [] AllP.nil (by kernel_rfl) ?_
      exact xret [.lf (.im true (.bool false))] rfl (by kernel_rfl) (retB (mod_no hP1.2 (by omega) hP2.2 (by omega)))
set_option maxRecDepth 100000 in
theorem impl_ShelfUses_vL (a : List Mod) (hs : smallS a) (at' : Int) :
    CallV Tryz.prog 8 [.lf (.im false (.sl 3 (a.map rMod))), .lf (.im true (.int .i64 at'))] (· = .lf (.im true (.sl 1 ((usL a at').map rI)))) := by
  refine CallX (fn := Tryz.f8) TToke mixede Tryz.func8 rfl rfl rfl rfl rfl fun E c => ?_
  have ha := hs.1
  refine vx c [(0, .lf (.im false (.sl 3 (a.map rMod)))), (2, .int at')] [] AllP.nil (by kernel_rfl) ?_
  refine vx c [(0, .lf (.im false (.sl 3 (a.map rMod)))), (2, .int at'), (10, .lf (.u 8 0 3 1 []))] [] AllP.nil (by kernel_rfl) ?_
  refine xw_seq ?_
  refine vxj c [(0, .lf (.im false (.sl 3 (a.map rMod)))), (2, .int at'), (10, .lf (.u 8 0 3 1 [])), (42, .bool ((!(B (Shape a))) || ((decide ((at' : Int) < 0)) || (decide ((at' : Int) ≥ ((a.length : Nat) : Int))))))] (by
      rcases Bool.eq_false_or_eq_true (!(B (Shape a))) with g1 | g1
      · have g1p := of_nT g1
        exact ⟨[(1, .ret (.bool (B (Shape a)))), (2, .slot (.bool true)), (12, .slot (.bool ((!(B (Shape a))) || ((decide ((at' : Int) < 0)) || (decide ((at' : Int) ≥ ((a.length : Nat) : Int)))))))], _, (a2 (cl tx19e (impl_ShelfShape_vL a (by assumption))) (a2 (kB g1) (a2 (kB (b := true) (c := ((!(B (Shape a))) || ((decide ((at' : Int) < 0)) || (decide ((at' : Int) ≥ ((a.length : Nat) : Int)))))) (by first | (simp only [g1, Bool.true_or, Bool.false_or, Bool.or_false, Bool.or_true, Bool.true_and, Bool.false_and, Bool.and_true, Bool.and_false, Bool.not_true, Bool.not_false, cond_true, cond_false]; done) | (simp [g1]; done))) AllP.nil))), by kernel_rfl⟩
      · have g1p := of_nF g1
        rcases Bool.eq_false_or_eq_true (decide ((at' : Int) < 0)) with g2 | g2
        · have g2p := of_dT g2
          exact ⟨[(1, .ret (.bool (B (Shape a)))), (2, .slot (.bool false)), (5, .slot (.bool true)), (12, .slot (.bool ((!(B (Shape a))) || ((decide ((at' : Int) < 0)) || (decide ((at' : Int) ≥ ((a.length : Nat) : Int)))))))], _, (a2 (cl tx19e (impl_ShelfShape_vL a (by assumption))) (a2 (kB g1) (a2 (kB g2) (a2 (kB (b := true) (c := ((!(B (Shape a))) || ((decide ((at' : Int) < 0)) || (decide ((at' : Int) ≥ ((a.length : Nat) : Int)))))) (by first | (simp only [g1, g2, Bool.true_or, Bool.false_or, Bool.or_false, Bool.or_true, Bool.true_and, Bool.false_and, Bool.and_true, Bool.and_false, Bool.not_true, Bool.not_false, cond_true, cond_false]; done) | (simp [g1, g2]; done))) AllP.nil)))), by kernel_rfl⟩
        · have g2p := of_dF g2
          exact ⟨[(1, .ret (.bool (B (Shape a)))), (2, .slot (.bool false)), (5, .slot (.bool false)), (10, .slot (.int ((a.length : Nat) : Int))), (12, .slot (.bool ((!(B (Shape a))) || ((decide ((at' : Int) < 0)) || (decide ((at' : Int) ≥ ((a.length : Nat) : Int)))))))], _, (a2 (cl tx19e (impl_ShelfShape_vL a (by assumption))) (a2 (kB g1) (a2 (kB g2) (a2 (ln (l := a) (f := rMod)) (a2 (kB (b := decide ((at' : Int) ≥ ((a.length : Nat) : Int))) (c := ((!(B (Shape a))) || ((decide ((at' : Int) < 0)) || (decide ((at' : Int) ≥ ((a.length : Nat) : Int)))))) (by first | (simp only [g1, g2, Bool.true_or, Bool.false_or, Bool.or_false, Bool.or_true, Bool.true_and, Bool.false_and, Bool.and_true, Bool.and_false, Bool.not_true, Bool.not_false, cond_true, cond_false]; done) | (simp [g1, g2]; done))) AllP.nil))))), by kernel_rfl⟩) ?_
  refine xw_cond ((!(B (Shape a))) || ((decide ((at' : Int) < 0)) || (decide ((at' : Int) ≥ ((a.length : Nat) : Int))))) rfl (fun h1 => ?_) (fun h1 => ?_)
  · have h1 := h1
    have hin : ¬ inRg a at' := by rintro ⟨q1, q2, q3⟩; simp [B_true q1] at h1; omega
    refine xw_fr 5 [(0, .lf (.im false (.sl 3 (a.map rMod)))), (2, .int at'), (10, .lf (.im true (.sl 1 []))), (42, .bool ((!(B (Shape a))) || ((decide ((at' : Int) < 0)) || (decide ((at' : Int) ≥ ((a.length : Nat) : Int))))))] (by kernel_rfl) ?_
    refine vx c [(8, .lf (.im true (.sl 1 [])))] [] AllP.nil (by kernel_rfl) ?_
    exact xret [.lf (.im true (.sl 1 []))] rfl (by kernel_rfl) (retL (by rw [← usL_no hin]; rfl))
  · have h1 := h1
    have hin : inRg a at' := by simp [B_iff] at h1; exact ⟨h1.1, by omega, by omega⟩
    refine xw_skip ?_
    refine xw_seq ?_
    refine vx c [(2, .int at'), (10, .lf (.u 8 0 3 1 [])), (46, .lf (.im false (.sl 3 (a.map rMod)))), (48, .int ((a.length : Nat) : Int)), (50, .int 0)] [(1, .slot (.int ((a.length : Nat) : Int)))] (a2 (ln (l := a) (f := rMod)) AllP.nil) (by kernel_rfl) ?_
    refine xw_block ?_
    refine xw_loop (fun n L => ∃ (i : Nat), L = [(2, .int at'), (10, .lf (.u 8 0 3 1 ((usTo a at' i).map rI))), (46, .lf (.im false (.sl 3 (a.map rMod)))), (48, .int ((a.length : Nat) : Int)), (50, .int ((i : Nat) : Int))] ∧ n = a.length - i ∧ (i ≤ a.length)) _ ⟨0, rfl, rfl, by omega⟩ ?_
    rintro n L ⟨i, rfl, rfl, hP1⟩
    refine vx c [(2, .int at'), (10, .lf (.u 8 0 3 1 ((usTo a at' i).map rI))), (46, .lf (.im false (.sl 3 (a.map rMod)))), (48, .int ((a.length : Nat) : Int)), (50, .int ((i : Nat) : Int)), (52, .bool (decide ((((i : Nat) : Int) : Int) < ((a.length : Nat) : Int))))] [] AllP.nil (by kernel_rfl) ?_
    refine xw_seq ?_
    refine xw_cond (decide ((((i : Nat) : Int) : Int) < ((a.length : Nat) : Int))) rfl (fun h2 => ?_) (fun h2 => ?_)
    · have h2 := of_dT h2
      refine xw_skip ?_
      refine xw_seq ?_
      refine xw_block ?_
      refine vx c [(2, .int at'), (10, .lf (.u 8 0 3 1 ((usTo a at' i).map rI))), (12, .int ((i : Nat) : Int)), (14, .lf (.ptr 7 0)), (15, .cell 7 [.im false (.sl 2 (((nth a i).records).map rRec)), .im false (.sl 6 (((nth a i).funcs).map rFn)), .im false (.sl 1 (((nth a i).friends).map rI))]), (46, .lf (.im false (.sl 3 (a.map rMod)))), (48, .int ((a.length : Nat) : Int)), (50, .int ((i : Nat) : Int))] [(1, .row (rMod (nth a i)))] (a2 (ix (f := rMod) (l := a) (i := i) (nth_at (l := a) (i := i) (by omega))) AllP.nil) (by kernel_rfl) ?_
      refine vxj c [(2, .int at'), (10, .lf (.u 8 0 3 1 ((usTo a at' i).map rI))), (12, .int ((i : Nat) : Int)), (46, .lf (.im false (.sl 3 (a.map rMod)))), (48, .int ((a.length : Nat) : Int)), (50, .int ((i : Nat) : Int)), (74, .bool ((decide ((((i : Nat) : Int) : Int) ≠ at')) && (modUse at' (nth a i))))] (by
          rcases Bool.eq_false_or_eq_true (decide ((((i : Nat) : Int) : Int) ≠ at')) with g3 | g3
          · have g3p := of_dT g3
            exact ⟨[(2, .slot (.bool true)), (6, .ret (.bool (modUse at' (nth a i)))), (7, .slot (.bool ((decide ((((i : Nat) : Int) : Int) ≠ at')) && (modUse at' (nth a i)))))], _, (a2 (kB g3) (a2 (cl tx26e (impl_usesModule_vL (nth a i) (by exact hs.2 _ (nth_mem (l := a) (i := i) (by omega))) at')) (a2 (kB (b := modUse at' (nth a i)) (c := ((decide ((((i : Nat) : Int) : Int) ≠ at')) && (modUse at' (nth a i)))) (by first | (simp only [g3, Bool.true_or, Bool.false_or, Bool.or_false, Bool.or_true, Bool.true_and, Bool.false_and, Bool.and_true, Bool.and_false, Bool.not_true, Bool.not_false, cond_true, cond_false]; done) | (simp [g3]; done))) AllP.nil))), by kernel_rfl⟩
          · have g3p := of_dF g3
            exact ⟨[(2, .slot (.bool false)), (7, .slot (.bool ((decide ((((i : Nat) : Int) : Int) ≠ at')) && (modUse at' (nth a i)))))], _, (a2 (kB g3) (a2 (kB (b := false) (c := ((decide ((((i : Nat) : Int) : Int) ≠ at')) && (modUse at' (nth a i)))) (by first | (simp only [g3, Bool.true_or, Bool.false_or, Bool.or_false, Bool.or_true, Bool.true_and, Bool.false_and, Bool.and_true, Bool.and_false, Bool.not_true, Bool.not_false, cond_true, cond_false]; done) | (simp [g3]; done))) AllP.nil)), by kernel_rfl⟩) ?_
      refine xw_cond ((decide ((((i : Nat) : Int) : Int) ≠ at')) && (modUse at' (nth a i))) rfl (fun h3 => ?_) (fun h3 => ?_)
      · have h3 := h3
        have hq : usQ a at' i = true := by simpa [usQ] using h3
        have hul := usTo_len a at' i
        refine vxe c [(2, .int at'), (10, .lf (.u 8 0 3 1 ((usTo a at' (i + 1)).map rI))), (46, .lf (.im false (.sl 3 (a.map rMod)))), (48, .int ((a.length : Nat) : Int)), (50, .int ((i : Nat) : Int))] [(2, .im), (3, .slot (.lf (.u 8 0 3 1 ((usTo a at' (i + 1)).map rI))))] (a2 (a1 (show (((usTo a at' i).map rI) ++ [[.int .i64 ((i : Nat) : Int)]] : List (List SV)) = (usTo a at' (i + 1)).map rI by exact usTo_yes hq)) (a2 (hl (((usTo a at' i).map rI).length)) (a2 (ap (a := ((usTo a at' i).map rI : List (List SV)).length + ([[.int .i64 ((i : Nat) : Int)]] : List (List SV)).length) (b := 8) (by simp; omega) (by unfold maxLen; simp; omega)) AllP.nil))) (by kernel_rfl) ?_
        exact vxe c [(2, .int at'), (10, .lf (.u 8 0 3 1 ((usTo a at' (i + 1)).map rI))), (46, .lf (.im false (.sl 3 (a.map rMod)))), (48, .int ((a.length : Nat) : Int)), (50, .int ((i + 1 : Nat) : Int))] [(0, .slot (.int ((i + 1 : Nat) : Int)))] (a2 (wI (a := ((i : Nat) : Int) + 1) (b := ((i + 1 : Nat) : Int)) (by omega) (by omega) (by omega)) AllP.nil) (by kernel_rfl) (⟨_, by omega, (i + 1), rfl, rfl, by omega⟩)
      · have h3 := h3
        have hq : usQ a at' i = false := by simpa [usQ] using h3
        refine xw_skip ?_
        rw [show usTo a at' i = usTo a at' (i + 1) from usTo_no hq]
        exact vxe c [(2, .int at'), (10, .lf (.u 8 0 3 1 ((usTo a at' (i + 1)).map rI))), (46, .lf (.im false (.sl 3 (a.map rMod)))), (48, .int ((a.length : Nat) : Int)), (50, .int ((i + 1 : Nat) : Int))] [(0, .slot (.int ((i + 1 : Nat) : Int)))] (a2 (wI (a := ((i : Nat) : Int) + 1) (b := ((i + 1 : Nat) : Int)) (by omega) (by omega) (by omega)) AllP.nil) (by kernel_rfl) (⟨_, by omega, (i + 1), rfl, rfl, by omega⟩)
    · have h2 := of_dF h2
      refine xw_exit ?_
      refine xw_fr 5 [(2, .int at'), (10, .lf (.im true (.sl 1 ((usTo a at' i).map rI)))), (46, .lf (.im false (.sl 3 (a.map rMod)))), (48, .int ((a.length : Nat) : Int)), (50, .int ((i : Nat) : Int)), (52, .bool (decide ((((i : Nat) : Int) : Int) < ((a.length : Nat) : Int))))] (by kernel_rfl) ?_
      refine vx c [(8, .lf (.im true (.sl 1 ((usTo a at' i).map rI))))] [(1, .ret (.lf (.im true (.sl 1 ((usTo a at' i).map rI)))))] (a2 (cl tx27e (clip_rI (usTo a at' i))) AllP.nil) (by kernel_rfl) ?_
      exact xret [.lf (.im true (.sl 1 ((usTo a at' i).map rI)))] rfl (by kernel_rfl) (retL (by rw [usL_yes hin (by omega)]))
set_option maxRecDepth 100000 in
theorem spec_l13Of_v (l : List ByteArray) (ha : l.length ≤ 140737488355328) (at' : Int) :
    CallV Tryz.prog 53 [.lf (.im true (.sl 1 (l.map rS))), .lf (.im true (.int .i64 at'))] (· = .bool (l.any (nmB at'))) := by
  refine CallX (fn := Tryz.f53) TToke mixede Tryz.func53 rfl rfl rfl rfl rfl fun E c => ?_
  refine vx c [(0, .lf (.im true (.sl 1 (l.map rS)))), (2, .int at')] [] AllP.nil (by kernel_rfl) ?_
  refine xw_seq ?_
  refine vx c [(0, .lf (.im true (.sl 1 (l.map rS)))), (2, .int at'), (10, .int 0)] [] AllP.nil (by kernel_rfl) ?_
  refine xw_block ?_
  refine xw_loop (fun n L => ∃ (i : Nat), L = [(0, .lf (.im true (.sl 1 (l.map rS)))), (2, .int at'), (10, .int ((i : Nat) : Int))] ∧ n = l.length - i ∧ (i ≤ l.length ∧ ∀ j, j < i → nmB at' (nth l j) = false)) _ ⟨0, rfl, rfl, ⟨by omega, fun j hj => by omega⟩⟩ ?_
  rintro n L ⟨i, rfl, rfl, hP1⟩
  refine xw_seq ?_
  refine vx c [(0, .lf (.im true (.sl 1 (l.map rS)))), (2, .int at'), (10, .int ((i : Nat) : Int)), (24, .bool (decide ((((i : Nat) : Int) : Int) < ((l.length : Nat) : Int))))] [(2, .slot (.int ((l.length : Nat) : Int)))] (a2 (ln (l := l) (f := rS)) AllP.nil) (by kernel_rfl) ?_
  refine xw_cond (decide ((((i : Nat) : Int) : Int) < ((l.length : Nat) : Int))) rfl (fun h1 => ?_) (fun h1 => ?_)
  · have h1 := of_dT h1
    refine xw_skip ?_
    refine xw_seq ?_
    refine xw_block ?_
    refine vx c [(0, .lf (.im true (.sl 1 (l.map rS)))), (2, .int at'), (10, .int ((i : Nat) : Int)), (12, .int ((kM (pl (nth l i)) : Nat) : Int)), (16, .bool (isKind (pl (nth l i))))] [(2, .row (rS (nth l i))), (4, .ret (.lf (.im true (.str (pl (nth l i)))))), (5, .ret (.tup [.lf (.im true (.int .i64 ((kM (pl (nth l i)) : Nat) : Int))), .lf (.im true (.int .i64 ((kR (pl (nth l i)) : Nat) : Int))), .lf (.im true (.bool (isKind (pl (nth l i)))))]))] (a2 (ix (f := rS) (l := l) (i := i) (nth_at (l := l) (i := i) (by omega))) (a2 (cl tx85e (spec_l1Of_v (nth l i))) (a2 (cl tx70e (spec_l1Kind_v (pl (nth l i)))) AllP.nil))) (by kernel_rfl) ?_
    refine vxj c [(0, .lf (.im true (.sl 1 (l.map rS)))), (2, .int at'), (10, .int ((i : Nat) : Int)), (60, .bool ((isKind (pl (nth l i))) && (decide ((((kM (pl (nth l i)) : Nat) : Int) : Int) = at'))))] (by
        rcases Bool.eq_false_or_eq_true (isKind (pl (nth l i))) with g1 | g1
        · exact ⟨[(0, .slot (.bool true)), (5, .slot (.bool ((isKind (pl (nth l i))) && (decide ((((kM (pl (nth l i)) : Nat) : Int) : Int) = at')))))], _, (a2 (kB g1) (a2 (kB (b := decide ((((kM (pl (nth l i)) : Nat) : Int) : Int) = at')) (c := ((isKind (pl (nth l i))) && (decide ((((kM (pl (nth l i)) : Nat) : Int) : Int) = at')))) (by first | (simp only [g1, Bool.true_or, Bool.false_or, Bool.or_false, Bool.or_true, Bool.true_and, Bool.false_and, Bool.and_true, Bool.and_false, Bool.not_true, Bool.not_false, cond_true, cond_false]; done) | (simp [g1]; done))) AllP.nil)), by kernel_rfl⟩
        · exact ⟨[(0, .slot (.bool false)), (5, .slot (.bool ((isKind (pl (nth l i))) && (decide ((((kM (pl (nth l i)) : Nat) : Int) : Int) = at')))))], _, (a2 (kB g1) (a2 (kB (b := false) (c := ((isKind (pl (nth l i))) && (decide ((((kM (pl (nth l i)) : Nat) : Int) : Int) = at')))) (by first | (simp only [g1, Bool.true_or, Bool.false_or, Bool.or_false, Bool.or_true, Bool.true_and, Bool.false_and, Bool.and_true, Bool.and_false, Bool.not_true, Bool.not_false, cond_true, cond_false]; done) | (simp [g1]; done))) AllP.nil)), by kernel_rfl⟩) ?_
    refine xw_cond ((isKind (pl (nth l i))) && (decide ((((kM (pl (nth l i)) : Nat) : Int) : Int) = at'))) rfl (fun h2 => ?_) (fun h2 => ?_)
    · have h2 := h2
      have hq : nmB at' (nth l i) = true := h2
      refine vx c [(8, .bool true)] [] AllP.nil (by kernel_rfl) ?_
      exact xret [.lf (.im true (.bool true))] rfl (by kernel_rfl) (retB (any_nth (by omega) hq).symm)
    · have h2 := h2
      have hq : nmB at' (nth l i) = false := h2
      refine xw_skip ?_
      exact vxe c [(0, .lf (.im true (.sl 1 (l.map rS)))), (2, .int at'), (10, .int ((i + 1 : Nat) : Int))] [(1, .slot (.int ((i + 1 : Nat) : Int)))] (a2 (wI (a := ((i : Nat) : Int) + 1) (b := ((i + 1 : Nat) : Int)) (by omega) (by omega) (by omega)) AllP.nil) (by kernel_rfl) (⟨_, by omega, (i + 1), rfl, rfl, ⟨by omega, mods_succ (p := fun j => nmB at' (nth l j) = false) hP1.2 hq⟩⟩)
  · have h1 := of_dF h1
    refine xw_exit ?_
    refine vx c [(8, .bool false)] [] AllP.nil (by kernel_rfl) ?_
    exact xret [.lf (.im true (.bool false))] rfl (by kernel_rfl) (retB (any_no hP1.2 (by omega)).symm)
set_option maxRecDepth 100000 in
theorem spec_l13Uses_v (m : Mod) (hm : m.small) (at' : Int) :
    CallV Tryz.prog 24 [.agg [.im true (.sl 2 (m.records.map rRec)), .im true (.sl 6 (m.funcs.map rFn)), .im true (.sl 1 (m.friends.map rI))], .lf (.im true (.int .i64 at'))] (· = .bool (modUse at' m)) := by
  refine CallX (fn := Tryz.f24) TToke mixede Tryz.func24 rfl rfl rfl rfl rfl fun E c => ?_
  obtain ⟨⟨b1, b2⟩, ⟨b3, b4⟩, b5⟩ := hm
  refine vx c [(2, .int at'), (4, .lf (.ptr 2 0)), (5, .cell 2 [.im true (.sl 2 (m.records.map rRec)), .im true (.sl 6 (m.funcs.map rFn)), .im true (.sl 1 (m.friends.map rI))])] [] AllP.nil (by kernel_rfl) ?_
  refine xw_seq ?_
  refine vx c [(2, .int at'), (4, .lf (.ptr 2 0)), (5, .cell 2 [.im true (.sl 2 (m.records.map rRec)), .im true (.sl 6 (m.funcs.map rFn)), .im true (.sl 1 (m.friends.map rI))]), (10, .int 0)] [] AllP.nil (by kernel_rfl) ?_
  refine xw_block ?_
  refine xw_loop (fun n L => ∃ (i : Nat), L = [(2, .int at'), (4, .lf (.ptr 2 0)), (5, .cell 2 [.im true (.sl 2 (m.records.map rRec)), .im true (.sl 6 (m.funcs.map rFn)), .im true (.sl 1 (m.friends.map rI))]), (10, .int ((i : Nat) : Int))] ∧ n = m.records.length - i ∧ (i ≤ m.records.length ∧ ∀ j, j < i → recUse at' (nth m.records j) = false)) _ ⟨0, rfl, rfl, ⟨by omega, fun j hj => by omega⟩⟩ ?_
  rintro n L ⟨i, rfl, rfl, hP1⟩
  refine xw_seq ?_
  refine vx c [(2, .int at'), (4, .lf (.ptr 2 0)), (5, .cell 2 [.im true (.sl 2 (m.records.map rRec)), .im true (.sl 6 (m.funcs.map rFn)), .im true (.sl 1 (m.friends.map rI))]), (10, .int ((i : Nat) : Int)), (26, .bool (decide ((((i : Nat) : Int) : Int) < ((m.records.length : Nat) : Int))))] [(3, .slot (.int ((m.records.length : Nat) : Int)))] (a2 (ln (l := m.records) (f := rRec)) AllP.nil) (by kernel_rfl) ?_
  refine xw_cond (decide ((((i : Nat) : Int) : Int) < ((m.records.length : Nat) : Int))) rfl (fun h1 => ?_) (fun h1 => ?_)
  · have h1 := of_dT h1
    refine xw_skip ?_
    refine xw_seq ?_
    refine xw_block ?_
    refine vx c [(2, .int at'), (4, .lf (.ptr 2 0)), (5, .cell 2 [.im true (.sl 2 (m.records.map rRec)), .im true (.sl 6 (m.funcs.map rFn)), .im true (.sl 1 (m.friends.map rI))]), (10, .int ((i : Nat) : Int)), (46, .bool (((nth m.records i).fields).any (nmB at')))] [(3, .row (rRec (nth m.records i))), (7, .ret (.bool (((nth m.records i).fields).any (nmB at'))))] (a2 (ix (f := rRec) (l := m.records) (i := i) (nth_at (l := m.records) (i := i) (by omega))) (a2 (cl tx53e (spec_l13Of_v ((nth m.records i).fields) (by first | (have := b2 _ (nth_mem (l := m.records) (i := i) (by omega)); unfold Rec.small at this; omega) | (have := b4 _ (nth_mem (l := m.funcs) (i := k) (by omega)); unfold Fn.small at this; omega)) at')) AllP.nil)) (by kernel_rfl) ?_
    refine xw_cond (((nth m.records i).fields).any (nmB at')) rfl (fun h2 => ?_) (fun h2 => ?_)
    · have h2 := h2
      refine vx c [(8, .bool true)] [] AllP.nil (by kernel_rfl) ?_
      exact xret [.lf (.im true (.bool true))] rfl (by kernel_rfl) (retB (mod_rec (by omega) h2))
    · have h2 := h2
      refine xw_skip ?_
      exact vxe c [(2, .int at'), (4, .lf (.ptr 2 0)), (5, .cell 2 [.im true (.sl 2 (m.records.map rRec)), .im true (.sl 6 (m.funcs.map rFn)), .im true (.sl 1 (m.friends.map rI))]), (10, .int ((i + 1 : Nat) : Int))] [(1, .slot (.int ((i + 1 : Nat) : Int)))] (a2 (wI (a := ((i : Nat) : Int) + 1) (b := ((i + 1 : Nat) : Int)) (by omega) (by omega) (by omega)) AllP.nil) (by kernel_rfl) (⟨_, by omega, (i + 1), rfl, rfl, ⟨by omega, mods_succ (p := fun j => recUse at' (nth m.records j) = false) hP1.2 h2⟩⟩)
  · have h1 := of_dF h1
    refine xw_exit ?_
    refine xw_seq ?_
    refine vx c [(2, .int at'), (4, .lf (.ptr 2 0)), (5, .cell 2 [.im true (.sl 2 (m.records.map rRec)), .im true (.sl 6 (m.funcs.map rFn)), .im true (.sl 1 (m.friends.map rI))]), (12, .int 0)] [] AllP.nil (by kernel_rfl) ?_
    refine xw_block ?_
    refine xw_loop (fun n L => ∃ (k : Nat), L = [(2, .int at'), (4, .lf (.ptr 2 0)), (5, .cell 2 [.im true (.sl 2 (m.records.map rRec)), .im true (.sl 6 (m.funcs.map rFn)), .im true (.sl 1 (m.friends.map rI))]), (12, .int ((k : Nat) : Int))] ∧ n = m.funcs.length - k ∧ (k ≤ m.funcs.length ∧ ∀ j, j < k → fnUse at' (nth m.funcs j) = false)) _ ⟨0, rfl, rfl, ⟨by omega, fun j hj => by omega⟩⟩ ?_
    rintro n L ⟨k, rfl, rfl, hP2⟩
    refine xw_seq ?_
    refine vx c [(2, .int at'), (4, .lf (.ptr 2 0)), (5, .cell 2 [.im true (.sl 2 (m.records.map rRec)), .im true (.sl 6 (m.funcs.map rFn)), .im true (.sl 1 (m.friends.map rI))]), (12, .int ((k : Nat) : Int)), (56, .bool (decide ((((k : Nat) : Int) : Int) < ((m.funcs.length : Nat) : Int))))] [(3, .slot (.int ((m.funcs.length : Nat) : Int)))] (a2 (ln (l := m.funcs) (f := rFn)) AllP.nil) (by kernel_rfl) ?_
    refine xw_cond (decide ((((k : Nat) : Int) : Int) < ((m.funcs.length : Nat) : Int))) rfl (fun h3 => ?_) (fun h3 => ?_)
    · have h3 := of_dT h3
      have hfs := b4 _ (nth_mem (l := m.funcs) (i := k) (by omega))
      unfold Fn.small at hfs
      refine xw_skip ?_
      refine xw_seq ?_
      refine xw_block ?_
      refine vx c [(2, .int at'), (4, .lf (.ptr 2 0)), (5, .cell 2 [.im true (.sl 2 (m.records.map rRec)), .im true (.sl 6 (m.funcs.map rFn)), .im true (.sl 1 (m.friends.map rI))]), (12, .int ((k : Nat) : Int)), (14, .lf (.ptr 7 0)), (15, .cell 7 [.im true (.int .i64 ((nth m.funcs k).seen)), .im true (.sl 1 (((nth m.funcs k).args).map rS)), .im true (.sl 1 (((nth m.funcs k).rets).map rS)), .im true (.sl 1 (((nth m.funcs k).locals).map rS)), .im true (.sl 1 (((nth m.funcs k).takes).map rI)), .im true (.sl 3 (((nth m.funcs k).code).map rIns))])] [(3, .row (rFn (nth m.funcs k)))] (a2 (ix (f := rFn) (l := m.funcs) (i := k) (nth_at (l := m.funcs) (i := k) (by omega))) AllP.nil) (by kernel_rfl) ?_
      refine xw_seq ?_
      refine vxj c [(2, .int at'), (4, .lf (.ptr 2 0)), (5, .cell 2 [.im true (.sl 2 (m.records.map rRec)), .im true (.sl 6 (m.funcs.map rFn)), .im true (.sl 1 (m.friends.map rI))]), (12, .int ((k : Nat) : Int)), (14, .lf (.ptr 7 0)), (15, .cell 7 [.im true (.int .i64 ((nth m.funcs k).seen)), .im true (.sl 1 (((nth m.funcs k).args).map rS)), .im true (.sl 1 (((nth m.funcs k).rets).map rS)), .im true (.sl 1 (((nth m.funcs k).locals).map rS)), .im true (.sl 1 (((nth m.funcs k).takes).map rI)), .im true (.sl 3 (((nth m.funcs k).code).map rIns))]), (102, .bool ((((nth m.funcs k).args).any (nmB at')) || ((((nth m.funcs k).rets).any (nmB at')) || (((nth m.funcs k).locals).any (nmB at')))))] (by
          rcases Bool.eq_false_or_eq_true (((nth m.funcs k).args).any (nmB at')) with g1 | g1
          · exact ⟨[(3, .ret (.bool (((nth m.funcs k).args).any (nmB at')))), (4, .slot (.bool true)), (15, .slot (.bool ((((nth m.funcs k).args).any (nmB at')) || ((((nth m.funcs k).rets).any (nmB at')) || (((nth m.funcs k).locals).any (nmB at'))))))], _, (a2 (cl tx53e (spec_l13Of_v ((nth m.funcs k).args) (by first | (have := b2 _ (nth_mem (l := m.records) (i := i) (by omega)); unfold Rec.small at this; omega) | (have := b4 _ (nth_mem (l := m.funcs) (i := k) (by omega)); unfold Fn.small at this; omega)) at')) (a2 (kB g1) (a2 (kB (b := true) (c := ((((nth m.funcs k).args).any (nmB at')) || ((((nth m.funcs k).rets).any (nmB at')) || (((nth m.funcs k).locals).any (nmB at'))))) (by first | (simp only [g1, Bool.true_or, Bool.false_or, Bool.or_false, Bool.or_true, Bool.true_and, Bool.false_and, Bool.and_true, Bool.and_false, Bool.not_true, Bool.not_false, cond_true, cond_false]; done) | (simp [g1]; done))) AllP.nil))), by kernel_rfl⟩
          · rcases Bool.eq_false_or_eq_true (((nth m.funcs k).rets).any (nmB at')) with g2 | g2
            · exact ⟨[(3, .ret (.bool (((nth m.funcs k).args).any (nmB at')))), (4, .slot (.bool false)), (8, .ret (.bool (((nth m.funcs k).rets).any (nmB at')))), (9, .slot (.bool true)), (15, .slot (.bool ((((nth m.funcs k).args).any (nmB at')) || ((((nth m.funcs k).rets).any (nmB at')) || (((nth m.funcs k).locals).any (nmB at'))))))], _, (a2 (cl tx53e (spec_l13Of_v ((nth m.funcs k).args) (by first | (have := b2 _ (nth_mem (l := m.records) (i := i) (by omega)); unfold Rec.small at this; omega) | (have := b4 _ (nth_mem (l := m.funcs) (i := k) (by omega)); unfold Fn.small at this; omega)) at')) (a2 (kB g1) (a2 (cl tx53e (spec_l13Of_v ((nth m.funcs k).rets) (by first | (have := b2 _ (nth_mem (l := m.records) (i := i) (by omega)); unfold Rec.small at this; omega) | (have := b4 _ (nth_mem (l := m.funcs) (i := k) (by omega)); unfold Fn.small at this; omega)) at')) (a2 (kB g2) (a2 (kB (b := true) (c := ((((nth m.funcs k).args).any (nmB at')) || ((((nth m.funcs k).rets).any (nmB at')) || (((nth m.funcs k).locals).any (nmB at'))))) (by first | (simp only [g1, g2, Bool.true_or, Bool.false_or, Bool.or_false, Bool.or_true, Bool.true_and, Bool.false_and, Bool.and_true, Bool.and_false, Bool.not_true, Bool.not_false, cond_true, cond_false]; done) | (simp [g1, g2]; done))) AllP.nil))))), by kernel_rfl⟩
            · exact ⟨[(3, .ret (.bool (((nth m.funcs k).args).any (nmB at')))), (4, .slot (.bool false)), (8, .ret (.bool (((nth m.funcs k).rets).any (nmB at')))), (9, .slot (.bool false)), (14, .ret (.bool (((nth m.funcs k).locals).any (nmB at')))), (15, .slot (.bool ((((nth m.funcs k).args).any (nmB at')) || ((((nth m.funcs k).rets).any (nmB at')) || (((nth m.funcs k).locals).any (nmB at'))))))], _, (a2 (cl tx53e (spec_l13Of_v ((nth m.funcs k).args) (by first | (have := b2 _ (nth_mem (l := m.records) (i := i) (by omega)); unfold Rec.small at this; omega) | (have := b4 _ (nth_mem (l := m.funcs) (i := k) (by omega)); unfold Fn.small at this; omega)) at')) (a2 (kB g1) (a2 (cl tx53e (spec_l13Of_v ((nth m.funcs k).rets) (by first | (have := b2 _ (nth_mem (l := m.records) (i := i) (by omega)); unfold Rec.small at this; omega) | (have := b4 _ (nth_mem (l := m.funcs) (i := k) (by omega)); unfold Fn.small at this; omega)) at')) (a2 (kB g2) (a2 (cl tx53e (spec_l13Of_v ((nth m.funcs k).locals) (by first | (have := b2 _ (nth_mem (l := m.records) (i := i) (by omega)); unfold Rec.small at this; omega) | (have := b4 _ (nth_mem (l := m.funcs) (i := k) (by omega)); unfold Fn.small at this; omega)) at')) (a2 (kB (b := ((nth m.funcs k).locals).any (nmB at')) (c := ((((nth m.funcs k).args).any (nmB at')) || ((((nth m.funcs k).rets).any (nmB at')) || (((nth m.funcs k).locals).any (nmB at'))))) (by first | (simp only [g1, g2, Bool.true_or, Bool.false_or, Bool.or_false, Bool.or_true, Bool.true_and, Bool.false_and, Bool.and_true, Bool.and_false, Bool.not_true, Bool.not_false, cond_true, cond_false]; done) | (simp [g1, g2]; done))) AllP.nil)))))), by kernel_rfl⟩) ?_
      refine xw_cond ((((nth m.funcs k).args).any (nmB at')) || ((((nth m.funcs k).rets).any (nmB at')) || (((nth m.funcs k).locals).any (nmB at')))) rfl (fun h4 => ?_) (fun h4 => ?_)
      · have h4 := h4
        have hh : fnHead at' (nth m.funcs k) = true := by simpa [fnHead, Bool.or_assoc] using h4
        refine vx c [(8, .bool true)] [] AllP.nil (by kernel_rfl) ?_
        exact xret [.lf (.im true (.bool true))] rfl (by kernel_rfl) (retB (mod_fn (by omega) (fn_head hh)))
      · have h4 := h4
        have hh : fnHead at' (nth m.funcs k) = false := by simpa [fnHead, Bool.or_assoc] using h4
        refine xw_skip ?_
        refine vx c [(2, .int at'), (4, .lf (.ptr 2 0)), (5, .cell 2 [.im true (.sl 2 (m.records.map rRec)), .im true (.sl 6 (m.funcs.map rFn)), .im true (.sl 1 (m.friends.map rI))]), (12, .int ((k : Nat) : Int)), (14, .lf (.ptr 7 0)), (15, .cell 7 [.im true (.int .i64 ((nth m.funcs k).seen)), .im true (.sl 1 (((nth m.funcs k).args).map rS)), .im true (.sl 1 (((nth m.funcs k).rets).map rS)), .im true (.sl 1 (((nth m.funcs k).locals).map rS)), .im true (.sl 1 (((nth m.funcs k).takes).map rI)), .im true (.sl 3 (((nth m.funcs k).code).map rIns))]), (16, .int 0)] [] AllP.nil (by kernel_rfl) ?_
        refine xw_block ?_
        refine xw_loop (fun n L => ∃ (q : Nat), L = [(2, .int at'), (4, .lf (.ptr 2 0)), (5, .cell 2 [.im true (.sl 2 (m.records.map rRec)), .im true (.sl 6 (m.funcs.map rFn)), .im true (.sl 1 (m.friends.map rI))]), (12, .int ((k : Nat) : Int)), (14, .lf (.ptr 7 0)), (15, .cell 7 [.im true (.int .i64 ((nth m.funcs k).seen)), .im true (.sl 1 (((nth m.funcs k).args).map rS)), .im true (.sl 1 (((nth m.funcs k).rets).map rS)), .im true (.sl 1 (((nth m.funcs k).locals).map rS)), .im true (.sl 1 (((nth m.funcs k).takes).map rI)), .im true (.sl 3 (((nth m.funcs k).code).map rIns))]), (16, .int ((q : Nat) : Int))] ∧ n = (nth m.funcs k).code.length - q ∧ (q ≤ (nth m.funcs k).code.length ∧ ∀ j, j < q → insUse at' (nth (nth m.funcs k).code j) = false)) _ ⟨0, rfl, rfl, ⟨by omega, fun j hj => by omega⟩⟩ ?_
        rintro n L ⟨q, rfl, rfl, hP3⟩
        refine xw_seq ?_
        refine vx c [(2, .int at'), (4, .lf (.ptr 2 0)), (5, .cell 2 [.im true (.sl 2 (m.records.map rRec)), .im true (.sl 6 (m.funcs.map rFn)), .im true (.sl 1 (m.friends.map rI))]), (12, .int ((k : Nat) : Int)), (14, .lf (.ptr 7 0)), (15, .cell 7 [.im true (.int .i64 ((nth m.funcs k).seen)), .im true (.sl 1 (((nth m.funcs k).args).map rS)), .im true (.sl 1 (((nth m.funcs k).rets).map rS)), .im true (.sl 1 (((nth m.funcs k).locals).map rS)), .im true (.sl 1 (((nth m.funcs k).takes).map rI)), .im true (.sl 3 (((nth m.funcs k).code).map rIns))]), (16, .int ((q : Nat) : Int)), (112, .bool (decide ((((q : Nat) : Int) : Int) < ((((nth m.funcs k).code).length : Nat) : Int))))] [(3, .slot (.int ((((nth m.funcs k).code).length : Nat) : Int)))] (a2 (ln (l := (nth m.funcs k).code) (f := rIns)) AllP.nil) (by kernel_rfl) ?_
        refine xw_cond (decide ((((q : Nat) : Int) : Int) < ((((nth m.funcs k).code).length : Nat) : Int))) rfl (fun h5 => ?_) (fun h5 => ?_)
        · have h5 := of_dT h5
          refine xw_skip ?_
          refine xw_seq ?_
          refine xw_block ?_
          refine vxj c [(2, .int at'), (4, .lf (.ptr 2 0)), (5, .cell 2 [.im true (.sl 2 (m.records.map rRec)), .im true (.sl 6 (m.funcs.map rFn)), .im true (.sl 1 (m.friends.map rI))]), (12, .int ((k : Nat) : Int)), (14, .lf (.ptr 7 0)), (15, .cell 7 [.im true (.int .i64 ((nth m.funcs k).seen)), .im true (.sl 1 (((nth m.funcs k).args).map rS)), .im true (.sl 1 (((nth m.funcs k).rets).map rS)), .im true (.sl 1 (((nth m.funcs k).locals).map rS)), .im true (.sl 1 (((nth m.funcs k).takes).map rI)), .im true (.sl 3 (((nth m.funcs k).code).map rIns))]), (16, .int ((q : Nat) : Int)), (150, .bool ((((nth ((nth m.funcs k).code) q).op).toList == (⟨#[99, 97, 108, 108]⟩ : ByteArray).toList) && (decide (((nth ((nth m.funcs k).code) q).a : Int) = at'))))] (by
              rcases Bool.eq_false_or_eq_true (((nth ((nth m.funcs k).code) q).op).toList == (⟨#[99, 97, 108, 108]⟩ : ByteArray).toList) with g3 | g3
              · exact ⟨[(3, .row (rIns (nth ((nth m.funcs k).code) q))), (6, .slot (.bool true)), (11, .row (rIns (nth ((nth m.funcs k).code) q))), (16, .slot (.bool ((((nth ((nth m.funcs k).code) q).op).toList == (⟨#[99, 97, 108, 108]⟩ : ByteArray).toList) && (decide (((nth ((nth m.funcs k).code) q).a : Int) = at')))))], _, (a2 (ix (f := rIns) (l := (nth m.funcs k).code) (i := q) (nth_at (l := (nth m.funcs k).code) (i := q) (by omega))) (a2 (kB g3) (a2 (ix (f := rIns) (l := (nth m.funcs k).code) (i := q) (nth_at (l := (nth m.funcs k).code) (i := q) (by omega))) (a2 (kB (b := decide (((nth ((nth m.funcs k).code) q).a : Int) = at')) (c := ((((nth ((nth m.funcs k).code) q).op).toList == (⟨#[99, 97, 108, 108]⟩ : ByteArray).toList) && (decide (((nth ((nth m.funcs k).code) q).a : Int) = at')))) (by first | (simp only [g3, Bool.true_or, Bool.false_or, Bool.or_false, Bool.or_true, Bool.true_and, Bool.false_and, Bool.and_true, Bool.and_false, Bool.not_true, Bool.not_false, cond_true, cond_false]; done) | (simp [g3]; done))) AllP.nil)))), by kernel_rfl⟩
              · exact ⟨[(3, .row (rIns (nth ((nth m.funcs k).code) q))), (6, .slot (.bool false)), (16, .slot (.bool ((((nth ((nth m.funcs k).code) q).op).toList == (⟨#[99, 97, 108, 108]⟩ : ByteArray).toList) && (decide (((nth ((nth m.funcs k).code) q).a : Int) = at')))))], _, (a2 (ix (f := rIns) (l := (nth m.funcs k).code) (i := q) (nth_at (l := (nth m.funcs k).code) (i := q) (by omega))) (a2 (kB g3) (a2 (kB (b := false) (c := ((((nth ((nth m.funcs k).code) q).op).toList == (⟨#[99, 97, 108, 108]⟩ : ByteArray).toList) && (decide (((nth ((nth m.funcs k).code) q).a : Int) = at')))) (by first | (simp only [g3, Bool.true_or, Bool.false_or, Bool.or_false, Bool.or_true, Bool.true_and, Bool.false_and, Bool.and_true, Bool.and_false, Bool.not_true, Bool.not_false, cond_true, cond_false]; done) | (simp [g3]; done))) AllP.nil))), by kernel_rfl⟩) ?_
          refine xw_cond ((((nth ((nth m.funcs k).code) q).op).toList == (⟨#[99, 97, 108, 108]⟩ : ByteArray).toList) && (decide (((nth ((nth m.funcs k).code) q).a : Int) = at'))) rfl (fun h6 => ?_) (fun h6 => ?_)
          · have h6 := h6
            have hi : insUse at' (nth (nth m.funcs k).code q) = true := h6
            refine vx c [(8, .bool true)] [] AllP.nil (by kernel_rfl) ?_
            exact xret [.lf (.im true (.bool true))] rfl (by kernel_rfl) (retB (mod_fn (by omega) (fn_ins (by omega) hi)))
          · have h6 := h6
            have hi : insUse at' (nth (nth m.funcs k).code q) = false := h6
            refine xw_skip ?_
            exact vxe c [(2, .int at'), (4, .lf (.ptr 2 0)), (5, .cell 2 [.im true (.sl 2 (m.records.map rRec)), .im true (.sl 6 (m.funcs.map rFn)), .im true (.sl 1 (m.friends.map rI))]), (12, .int ((k : Nat) : Int)), (14, .lf (.ptr 7 0)), (15, .cell 7 [.im true (.int .i64 ((nth m.funcs k).seen)), .im true (.sl 1 (((nth m.funcs k).args).map rS)), .im true (.sl 1 (((nth m.funcs k).rets).map rS)), .im true (.sl 1 (((nth m.funcs k).locals).map rS)), .im true (.sl 1 (((nth m.funcs k).takes).map rI)), .im true (.sl 3 (((nth m.funcs k).code).map rIns))]), (16, .int ((q + 1 : Nat) : Int))] [(1, .slot (.int ((q + 1 : Nat) : Int)))] (a2 (wI (a := ((q : Nat) : Int) + 1) (b := ((q + 1 : Nat) : Int)) (by omega) (by omega) (by omega)) AllP.nil) (by kernel_rfl) (⟨_, by omega, (q + 1), rfl, rfl, ⟨by omega, mods_succ (p := fun j => insUse at' (nth (nth m.funcs k).code j) = false) hP3.2 hi⟩⟩)
        · have h5 := of_dF h5
          refine xw_exit ?_
          exact vxe c [(2, .int at'), (4, .lf (.ptr 2 0)), (5, .cell 2 [.im true (.sl 2 (m.records.map rRec)), .im true (.sl 6 (m.funcs.map rFn)), .im true (.sl 1 (m.friends.map rI))]), (12, .int ((k + 1 : Nat) : Int))] [(1, .slot (.int ((k + 1 : Nat) : Int)))] (a2 (wI (a := ((k : Nat) : Int) + 1) (b := ((k + 1 : Nat) : Int)) (by omega) (by omega) (by omega)) AllP.nil) (by kernel_rfl) (⟨_, by omega, (k + 1), rfl, rfl, ⟨by omega, mods_succ (p := fun j => fnUse at' (nth m.funcs j) = false) hP2.2 (fn_no hh hP3.2 (by omega))⟩⟩)
    · have h3 := of_dF h3
      refine xw_exit ?_
      refine vx c [(8, .bool false)] [] AllP.nil (by kernel_rfl) ?_
      exact xret [.lf (.im true (.bool false))] rfl (by kernel_rfl) (retB (mod_no hP1.2 (by omega) hP2.2 (by omega)))
set_option maxRecDepth 100000 in
theorem spec_ShelfUses_v (a : List Mod) (hs : smallS a) (at' : Int) :
    CallV Tryz.prog 6 [.lf (.im true (.sl 3 (a.map rMod))), .lf (.im true (.int .i64 at'))] (· = .lf (.im true (.sl 1 ((usL a at').map rI)))) := by
  refine CallX (fn := Tryz.f6) TToke mixede Tryz.func6 rfl rfl rfl rfl rfl fun E c => ?_
  have ha := hs.1
  refine vx c [(0, .lf (.im true (.sl 3 (a.map rMod)))), (2, .int at')] [] AllP.nil (by kernel_rfl) ?_
  refine vx c [(0, .lf (.im true (.sl 3 (a.map rMod)))), (2, .int at'), (10, .lf (.u 7 0 3 1 []))] [] AllP.nil (by kernel_rfl) ?_
  refine xw_seq ?_
  refine vx c [(0, .lf (.im true (.sl 3 (a.map rMod)))), (2, .int at'), (10, .lf (.u 7 0 3 1 [])), (12, .int 0)] [] AllP.nil (by kernel_rfl) ?_
  refine xw_block ?_
  refine xw_loop (fun n L => ∃ (i : Nat), L = [(0, .lf (.im true (.sl 3 (a.map rMod)))), (2, .int at'), (10, .lf (.u 7 0 3 1 ((usTo a at' i).map rI))), (12, .int ((i : Nat) : Int))] ∧ n = a.length - i ∧ (i ≤ a.length ∧ (i = 0 ∨ inRg a at'))) _ ⟨0, rfl, rfl, ⟨by omega, .inl rfl⟩⟩ ?_
  rintro n L ⟨i, rfl, rfl, hP1⟩
  refine xw_seq ?_
  refine vxj c [(0, .lf (.im true (.sl 3 (a.map rMod)))), (2, .int at'), (10, .lf (.u 7 0 3 1 ((usTo a at' i).map rI))), (12, .int ((i : Nat) : Int)), (44, .bool ((decide ((((i : Nat) : Int) : Int) < ((a.length : Nat) : Int))) && ((B (Shape a)) && (inI at' 0 (((a.length : Nat) : Int) - 1)))))] (by
      rcases Bool.eq_false_or_eq_true (decide ((((i : Nat) : Int) : Int) < ((a.length : Nat) : Int))) with g1 | g1
      · have g1p := of_dT g1
        rcases Bool.eq_false_or_eq_true (B (Shape a)) with g2 | g2
        · exact ⟨[(2, .slot (.int ((a.length : Nat) : Int))), (3, .slot (.bool true)), (6, .ret (.bool (B (Shape a)))), (7, .slot (.bool true)), (11, .slot (.int ((a.length : Nat) : Int))), (12, .slot (.int (((a.length : Nat) : Int) - 1))), (13, .ret (.bool (inI at' 0 (((a.length : Nat) : Int) - 1)))), (14, .slot (.bool ((decide ((((i : Nat) : Int) : Int) < ((a.length : Nat) : Int))) && ((B (Shape a)) && (inI at' 0 (((a.length : Nat) : Int) - 1))))))], _, (a2 (ln (l := a) (f := rMod)) (a2 (kB g1) (a2 (cl tx22e (spec_ShelfShape_v a (by assumption))) (a2 (kB g2) (a2 (ln (l := a) (f := rMod)) (a2 (wI (a := ((a.length : Nat) : Int) - 1) (b := ((a.length : Nat) : Int) - 1) (by omega) (by omega) (by omega)) (a2 (cl tx23e (spec_l6In_v at' 0 (((a.length : Nat) : Int) - 1))) (a2 (kB (b := inI at' 0 (((a.length : Nat) : Int) - 1)) (c := ((decide ((((i : Nat) : Int) : Int) < ((a.length : Nat) : Int))) && ((B (Shape a)) && (inI at' 0 (((a.length : Nat) : Int) - 1))))) (by first | (simp only [g1, g2, Bool.true_or, Bool.false_or, Bool.or_false, Bool.or_true, Bool.true_and, Bool.false_and, Bool.and_true, Bool.and_false, Bool.not_true, Bool.not_false, cond_true, cond_false]; done) | (simp [g1, g2]; done))) AllP.nil)))))))), by kernel_rfl⟩
        · exact ⟨[(2, .slot (.int ((a.length : Nat) : Int))), (3, .slot (.bool true)), (6, .ret (.bool (B (Shape a)))), (7, .slot (.bool false)), (14, .slot (.bool ((decide ((((i : Nat) : Int) : Int) < ((a.length : Nat) : Int))) && ((B (Shape a)) && (inI at' 0 (((a.length : Nat) : Int) - 1))))))], _, (a2 (ln (l := a) (f := rMod)) (a2 (kB g1) (a2 (cl tx22e (spec_ShelfShape_v a (by assumption))) (a2 (kB g2) (a2 (kB (b := false) (c := ((decide ((((i : Nat) : Int) : Int) < ((a.length : Nat) : Int))) && ((B (Shape a)) && (inI at' 0 (((a.length : Nat) : Int) - 1))))) (by first | (simp only [g1, g2, Bool.true_or, Bool.false_or, Bool.or_false, Bool.or_true, Bool.true_and, Bool.false_and, Bool.and_true, Bool.and_false, Bool.not_true, Bool.not_false, cond_true, cond_false]; done) | (simp [g1, g2]; done))) AllP.nil))))), by kernel_rfl⟩
      · have g1p := of_dF g1
        exact ⟨[(2, .slot (.int ((a.length : Nat) : Int))), (3, .slot (.bool false)), (14, .slot (.bool ((decide ((((i : Nat) : Int) : Int) < ((a.length : Nat) : Int))) && ((B (Shape a)) && (inI at' 0 (((a.length : Nat) : Int) - 1))))))], _, (a2 (ln (l := a) (f := rMod)) (a2 (kB g1) (a2 (kB (b := false) (c := ((decide ((((i : Nat) : Int) : Int) < ((a.length : Nat) : Int))) && ((B (Shape a)) && (inI at' 0 (((a.length : Nat) : Int) - 1))))) (by first | (simp only [g1, Bool.true_or, Bool.false_or, Bool.or_false, Bool.or_true, Bool.true_and, Bool.false_and, Bool.and_true, Bool.and_false, Bool.not_true, Bool.not_false, cond_true, cond_false]; done) | (simp [g1]; done))) AllP.nil))), by kernel_rfl⟩) ?_
  refine xw_cond ((decide ((((i : Nat) : Int) : Int) < ((a.length : Nat) : Int))) && ((B (Shape a)) && (inI at' 0 (((a.length : Nat) : Int) - 1)))) rfl (fun h1 => ?_) (fun h1 => ?_)
  · have h1 := h1
    have hin : inRg a at' ∧ i < a.length := by simp [B_iff, inI] at h1; exact ⟨⟨h1.2.1, by omega, by omega⟩, by omega⟩
    have hil := hin.2
    refine xw_skip ?_
    refine xw_seq ?_
    refine xw_block ?_
    refine vxj c [(0, .lf (.im true (.sl 3 (a.map rMod)))), (2, .int at'), (10, .lf (.u 7 0 3 1 ((usTo a at' i).map rI))), (12, .int ((i : Nat) : Int)), (70, .bool ((decide ((((i : Nat) : Int) : Int) ≠ at')) && (modUse at' (nth a i))))] (by
        rcases Bool.eq_false_or_eq_true (decide ((((i : Nat) : Int) : Int) ≠ at')) with g3 | g3
        · have g3p := of_dT g3
          exact ⟨[(2, .slot (.bool true)), (6, .row (rMod (nth a i))), (9, .ret (.bool (modUse at' (nth a i)))), (10, .slot (.bool ((decide ((((i : Nat) : Int) : Int) ≠ at')) && (modUse at' (nth a i)))))], _, (a2 (kB g3) (a2 (ix (f := rMod) (l := a) (i := i) (nth_at (l := a) (i := i) (by omega))) (a2 (cl tx24e (spec_l13Uses_v (nth a i) (by exact hs.2 _ (nth_mem (l := a) (i := i) (by omega))) at')) (a2 (kB (b := modUse at' (nth a i)) (c := ((decide ((((i : Nat) : Int) : Int) ≠ at')) && (modUse at' (nth a i)))) (by first | (simp only [g3, Bool.true_or, Bool.false_or, Bool.or_false, Bool.or_true, Bool.true_and, Bool.false_and, Bool.and_true, Bool.and_false, Bool.not_true, Bool.not_false, cond_true, cond_false]; done) | (simp [g3]; done))) AllP.nil)))), by kernel_rfl⟩
        · have g3p := of_dF g3
          exact ⟨[(2, .slot (.bool false)), (10, .slot (.bool ((decide ((((i : Nat) : Int) : Int) ≠ at')) && (modUse at' (nth a i)))))], _, (a2 (kB g3) (a2 (kB (b := false) (c := ((decide ((((i : Nat) : Int) : Int) ≠ at')) && (modUse at' (nth a i)))) (by first | (simp only [g3, Bool.true_or, Bool.false_or, Bool.or_false, Bool.or_true, Bool.true_and, Bool.false_and, Bool.and_true, Bool.and_false, Bool.not_true, Bool.not_false, cond_true, cond_false]; done) | (simp [g3]; done))) AllP.nil)), by kernel_rfl⟩) ?_
    refine xw_cond ((decide ((((i : Nat) : Int) : Int) ≠ at')) && (modUse at' (nth a i))) rfl (fun h2 => ?_) (fun h2 => ?_)
    · have h2 := h2
      have hq : usQ a at' i = true := by simpa [usQ] using h2
      have hul := usTo_len a at' i
      refine vxe c [(0, .lf (.im true (.sl 3 (a.map rMod)))), (2, .int at'), (10, .lf (.u 7 0 3 1 ((usTo a at' (i + 1)).map rI))), (12, .int ((i : Nat) : Int))] [(2, .im), (3, .slot (.lf (.u 7 0 3 1 ((usTo a at' (i + 1)).map rI))))] (a2 (a1 (show (((usTo a at' i).map rI) ++ [[.int .i64 ((i : Nat) : Int)]] : List (List SV)) = (usTo a at' (i + 1)).map rI by exact usTo_yes hq)) (a2 (hl (((usTo a at' i).map rI).length)) (a2 (ap (a := ((usTo a at' i).map rI : List (List SV)).length + ([[.int .i64 ((i : Nat) : Int)]] : List (List SV)).length) (b := 8) (by simp; omega) (by unfold maxLen; simp; omega)) AllP.nil))) (by kernel_rfl) ?_
      exact vxe c [(0, .lf (.im true (.sl 3 (a.map rMod)))), (2, .int at'), (10, .lf (.u 7 0 3 1 ((usTo a at' (i + 1)).map rI))), (12, .int ((i + 1 : Nat) : Int))] [(1, .slot (.int ((i + 1 : Nat) : Int)))] (a2 (wI (a := ((i : Nat) : Int) + 1) (b := ((i + 1 : Nat) : Int)) (by omega) (by omega) (by omega)) AllP.nil) (by kernel_rfl) (⟨_, by omega, (i + 1), rfl, rfl, ⟨by omega, .inr hin.1⟩⟩)
    · have h2 := h2
      have hq : usQ a at' i = false := by simpa [usQ] using h2
      refine xw_skip ?_
      rw [show usTo a at' i = usTo a at' (i + 1) from usTo_no hq]
      exact vxe c [(0, .lf (.im true (.sl 3 (a.map rMod)))), (2, .int at'), (10, .lf (.u 7 0 3 1 ((usTo a at' (i + 1)).map rI))), (12, .int ((i + 1 : Nat) : Int))] [(1, .slot (.int ((i + 1 : Nat) : Int)))] (a2 (wI (a := ((i : Nat) : Int) + 1) (b := ((i + 1 : Nat) : Int)) (by omega) (by omega) (by omega)) AllP.nil) (by kernel_rfl) (⟨_, by omega, (i + 1), rfl, rfl, ⟨by omega, .inr hin.1⟩⟩)
  · have h1 := h1
    have hin : ¬ (i < a.length ∧ inRg a at') := by rintro ⟨q0, q1, q2, q3⟩; simp [B_true q1, inI] at h1; omega
    refine xw_exit ?_
    refine xw_fr 5 [(0, .lf (.im true (.sl 3 (a.map rMod)))), (2, .int at'), (10, .lf (.im true (.sl 1 ((usTo a at' i).map rI)))), (12, .int ((i : Nat) : Int)), (44, .bool ((decide ((((i : Nat) : Int) : Int) < ((a.length : Nat) : Int))) && ((B (Shape a)) && (inI at' 0 (((a.length : Nat) : Int) - 1)))))] (by kernel_rfl) ?_
    refine vx c [(8, .lf (.im true (.sl 1 ((usTo a at' i).map rI))))] [] AllP.nil (by kernel_rfl) ?_
    exact xret [.lf (.im true (.sl 1 ((usTo a at' i).map rI)))] rfl (by kernel_rfl) (retL (by rw [spec_end hP1 hin]))
end Go.Proofs.YtahciphhopiipaaGreatDoor
