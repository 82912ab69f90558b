import Derived.Test.YtahciphhopiipaaD0
import Derived.Test.YtahciphhopiipaaProg
import Derived.KernelRfl
set_option linter.unusedVariables false
set_option linter.unusedSimpArgs false
namespace Go.Proofs.Ytahciphhopiipaa
open Go Go.RowKit V
def TT : Tab := [(3, ⟨.int .i64, 1, 8, [.im true (.int .i64 0)], [.int .i64 0]⟩),
  (4, ⟨.bool, 1, 1, [.im true (.bool false)], [.bool false]⟩),
  (9, ⟨.str, 1, 16, [.im true (.str ⟨#[]⟩)], [.str ⟨#[]⟩]⟩),
  (22, ⟨.sl 64, 1, 24, [.nil], [.sl 2 []]⟩),
  (23, ⟨.sl 68, 1, 24, [.nil], [.sl 6 []]⟩),
  (24, ⟨.sl 3, 1, 24, [.nil], [.sl 1 []]⟩),
  (26, ⟨.st [(0, 1), (1, 1), (2, 1)], 3, 72, [.nil, .nil, .nil], [.sl 2 [], .sl 6 [], .sl 1 []]⟩),
  (29, ⟨.sl 45, 1, 24, [.nil], [.sl 2 []]⟩),
  (30, ⟨.sl 50, 1, 24, [.nil], [.sl 6 []]⟩),
  (32, ⟨.st [(0, 1), (1, 1), (2, 1)], 3, 72, [.nil, .nil, .nil], [.sl 2 [], .sl 6 [], .sl 1 []]⟩),
  (43, ⟨.sl 9, 1, 24, [.nil], [.sl 1 []]⟩),
  (45, ⟨.st [(0, 1), (1, 1)], 2, 32, [.im true (.int .i64 0), .nil], [.int .i64 0, .sl 1 []]⟩),
  (48, ⟨.sl 95, 1, 24, [.nil], [.sl 3 []]⟩),
  (50, ⟨.st [(0, 1), (1, 1), (2, 1), (3, 1), (4, 1), (5, 1)], 6, 128, [.im true (.int .i64 0), .nil, .nil, .nil, .nil, .nil], [.int .i64 0, .sl 1 [], .sl 1 [], .sl 1 [], .sl 1 [], .sl 3 []]⟩),
  (64, ⟨.st [(0, 1), (1, 1)], 2, 32, [.im true (.int .i64 0), .nil], [.int .i64 0, .sl 1 []]⟩),
  (66, ⟨.sl 107, 1, 24, [.nil], [.sl 3 []]⟩),
  (68, ⟨.st [(0, 1), (1, 1), (2, 1), (3, 1), (4, 1), (5, 1)], 6, 128, [.im true (.int .i64 0), .nil, .nil, .nil, .nil, .nil], [.int .i64 0, .sl 1 [], .sl 1 [], .sl 1 [], .sl 1 [], .sl 3 []]⟩),
  (95, ⟨.st [(0, 1), (1, 1), (2, 1)], 3, 32, [.im true (.str ⟨#[]⟩), .im true (.int .i64 0), .im true (.int .i64 0)], [.str ⟨#[]⟩, .int .i64 0, .int .i64 0]⟩),
  (107, ⟨.st [(0, 1), (1, 1), (2, 1)], 3, 32, [.im true (.str ⟨#[]⟩), .im true (.int .i64 0), .im true (.int .i64 0)], [.str ⟨#[]⟩, .int .i64 0, .int .i64 0]⟩)]
theorem TTok : TabOK Try.prog TT := ⟨.int .i64 (by kernel_rfl) (by kernel_rfl),
  .bool (by kernel_rfl) (by kernel_rfl),
  .str (by kernel_rfl) (by kernel_rfl),
  .sl 64 2 (by kernel_rfl) (by kernel_rfl) (by kernel_rfl),
  .sl 68 6 (by kernel_rfl) (by kernel_rfl) (by kernel_rfl),
  .sl 3 1 (by kernel_rfl) (by kernel_rfl) (by kernel_rfl),
  .st [(0, 1), (1, 1), (2, 1)] (.agg #[(.slice none 0 0), (.slice none 0 0), (.slice none 0 0)]) (by kernel_rfl) (by kernel_rfl) rfl rfl (.inr ⟨rfl, rfl⟩) (by decide),
  .sl 45 2 (by kernel_rfl) (by kernel_rfl) (by kernel_rfl),
  .sl 50 6 (by kernel_rfl) (by kernel_rfl) (by kernel_rfl),
  .st [(0, 1), (1, 1), (2, 1)] (.agg #[(.slice none 0 0), (.slice none 0 0), (.slice none 0 0)]) (by kernel_rfl) (by kernel_rfl) rfl rfl (.inr ⟨rfl, rfl⟩) (by decide),
  .sl 9 1 (by kernel_rfl) (by kernel_rfl) (by kernel_rfl),
  .st [(0, 1), (1, 1)] (.agg #[(.int .i64 0), (.slice none 0 0)]) (by kernel_rfl) (by kernel_rfl) rfl rfl (.inr ⟨rfl, rfl⟩) (by decide),
  .sl 95 3 (by kernel_rfl) (by kernel_rfl) (by kernel_rfl),
  .st [(0, 1), (1, 1), (2, 1), (3, 1), (4, 1), (5, 1)] (.agg #[(.int .i64 0), (.slice none 0 0), (.slice none 0 0), (.slice none 0 0), (.slice none 0 0), (.slice none 0 0)]) (by kernel_rfl) (by kernel_rfl) rfl rfl (.inr ⟨rfl, rfl⟩) (by decide),
  .st [(0, 1), (1, 1)] (.agg #[(.int .i64 0), (.slice none 0 0)]) (by kernel_rfl) (by kernel_rfl) rfl rfl (.inr ⟨rfl, rfl⟩) (by decide),
  .sl 107 3 (by kernel_rfl) (by kernel_rfl) (by kernel_rfl),
  .st [(0, 1), (1, 1), (2, 1), (3, 1), (4, 1), (5, 1)] (.agg #[(.int .i64 0), (.slice none 0 0), (.slice none 0 0), (.slice none 0 0), (.slice none 0 0), (.slice none 0 0)]) (by kernel_rfl) (by kernel_rfl) rfl rfl (.inr ⟨rfl, rfl⟩) (by decide),
  .st [(0, 1), (1, 1), (2, 1)] (.agg #[(.string ⟨#[]⟩), (.int .i64 0), (.int .i64 0)]) (by kernel_rfl) (by kernel_rfl) rfl rfl (.inr ⟨rfl, rfl⟩) (by decide),
  .st [(0, 1), (1, 1), (2, 1)] (.agg #[(.string ⟨#[]⟩), (.int .i64 0), (.int .i64 0)]) (by kernel_rfl) (by kernel_rfl) rfl rfl (.inr ⟨rfl, rfl⟩) (by decide), trivial⟩
theorem mixed : Try.prog.follows .mixedOrders = true := by kernel_rfl
theorem tx5 : Text Try.prog 5 := Text.of Try.func5 rfl (by kernel_rfl)
theorem tx6 : Text Try.prog 6 := Text.of Try.func6 rfl (by kernel_rfl)
theorem tx7 : Text Try.prog 7 := Text.of Try.func7 rfl (by kernel_rfl)
theorem tx8 : Text Try.prog 8 := Text.of Try.func8 rfl (by kernel_rfl)
theorem tx9 : Text Try.prog 9 := Text.of Try.func9 rfl (by kernel_rfl)
theorem tx12 : Text Try.prog 12 := Text.of Try.func12 rfl (by kernel_rfl)
theorem tx13 : Text Try.prog 13 := Text.of Try.func13 rfl (by kernel_rfl)
theorem tx14 : Text Try.prog 14 := Text.of Try.func14 rfl (by kernel_rfl)
theorem tx15 : Text Try.prog 15 := Text.of Try.func15 rfl (by kernel_rfl)
theorem tx16 : Text Try.prog 16 := Text.of Try.func16 rfl (by kernel_rfl)
theorem tx17 : Text Try.prog 17 := Text.of Try.func17 rfl (by kernel_rfl)
theorem tx18 : Text Try.prog 18 := Text.of Try.func18 rfl (by kernel_rfl)
theorem tx19 : Text Try.prog 19 := Text.of Try.func19 rfl (by kernel_rfl)
theorem tx20 : Text Try.prog 20 := Text.of Try.func20 rfl (by kernel_rfl)
theorem tx21 : Text Try.prog 21 := Text.of Try.func21 rfl (by kernel_rfl)
theorem tx22 : Text Try.prog 22 := Text.of Try.func22 rfl (by kernel_rfl)
theorem tx23 : Text Try.prog 23 := Text.of Try.func23 rfl (by kernel_rfl)
theorem tx24 : Text Try.prog 24 := Text.of Try.func24 rfl (by kernel_rfl)
theorem tx25 : Text Try.prog 25 := Text.of Try.func25 rfl (by kernel_rfl)
theorem tx30 : Text Try.prog 30 := Text.of Try.func30 rfl (by kernel_rfl)
theorem tx31 : Text Try.prog 31 := Text.of Try.func31 rfl (by kernel_rfl)
theorem tx32 : Text Try.prog 32 := Text.of Try.func32 rfl (by kernel_rfl)
theorem tx33 : Text Try.prog 33 := Text.of Try.func33 rfl (by kernel_rfl)
theorem tx34 : Text Try.prog 34 := Text.of Try.func34 rfl (by kernel_rfl)
theorem tx35 : Text Try.prog 35 := Text.of Try.func35 rfl (by kernel_rfl)
theorem tx36 : Text Try.prog 36 := Text.of Try.func36 rfl (by kernel_rfl)
theorem tx45 : Text Try.prog 45 := Text.of Try.func45 rfl (by kernel_rfl)
theorem tx46 : Text Try.prog 46 := Text.of Try.func46 rfl (by kernel_rfl)
theorem tx47 : Text Try.prog 47 := Text.of Try.func47 rfl (by kernel_rfl)
theorem tx48 : Text Try.prog 48 := Text.of Try.func48 rfl (by kernel_rfl)
theorem tx49 : Text Try.prog 49 := Text.of Try.func49 rfl (by kernel_rfl)
theorem tx50 : Text Try.prog 50 := Text.of Try.func50 rfl (by kernel_rfl)
theorem tx62 : Text Try.prog 62 := Text.of Try.func62 rfl (by kernel_rfl)
theorem tx63 : Text Try.prog 63 := Text.of Try.func63 rfl (by kernel_rfl)
theorem tx64 : Text Try.prog 64 := Text.of Try.func64 rfl (by kernel_rfl)
set_option maxRecDepth 100000 in
theorem laws_eqStringS_v (a b : List ByteArray) (ha : a.length ≤ 140737488355328) :
    CallV Try.prog 49 [.lf (.im true (.sl 1 (a.map rS))), .lf (.im true (.sl 1 (b.map rS)))] (· = .bool (decide (a = b))) := by
  refine CallX (fn := Try.f49) TTok mixed Try.func49 rfl rfl rfl rfl rfl fun E c => ?_
  refine vx c [(0, .lf (.im true (.sl 1 (a.map rS)))), (2, .lf (.im true (.sl 1 (b.map rS))))] [] AllP.nil (by kernel_rfl) ?_
  refine xw_seq ?_
  refine vx c [(0, .lf (.im true (.sl 1 (a.map rS)))), (2, .lf (.im true (.sl 1 (b.map rS)))), (20, .bool (decide ((((a.length : Nat) : Int) : Int) ≠ ((b.length : Nat) : Int))))] [(1, .slot (.int ((a.length : Nat) : Int))), (3, .slot (.int ((b.length : Nat) : Int)))] (a2 (ln (l := a) (f := rS)) (a2 (ln (l := b) (f := rS)) AllP.nil)) (by kernel_rfl) ?_
  refine xw_cond (decide ((((a.length : Nat) : Int) : Int) ≠ ((b.length : Nat) : Int))) rfl (fun h1 => ?_) (fun h1 => ?_)
  · have h1 := of_dT h1
    refine vx c [(8, .bool false)] [] AllP.nil (by kernel_rfl) ?_
    exact xret [.lf (.im true (.bool false))] rfl (by kernel_rfl) (retF (ne_len h1))
  · have h1 := of_dF h1
    have hl : a.length = b.length := by omega
    refine xw_skip ?_
    refine xw_seq ?_
    refine vx c [(0, .lf (.im true (.sl 1 (a.map rS)))), (2, .lf (.im true (.sl 1 (b.map rS)))), (10, .int 0)] [] AllP.nil (by kernel_rfl) ?_
    refine xw_block ?_
    refine xw_loop (fun n L => ∃ (i : Nat), L = [(0, .lf (.im true (.sl 1 (a.map rS)))), (2, .lf (.im true (.sl 1 (b.map rS)))), (10, .int ((i : Nat) : Int))] ∧ n = a.length - i ∧ (i ≤ a.length ∧ a.take i = b.take i)) _ ⟨0, rfl, rfl, ⟨by omega, by simp⟩⟩ ?_
    rintro n L ⟨i, rfl, rfl, hP1⟩
    refine xw_seq ?_
    refine vx c [(0, .lf (.im true (.sl 1 (a.map rS)))), (2, .lf (.im true (.sl 1 (b.map rS)))), (10, .int ((i : Nat) : Int)), (28, .bool (decide ((((i : Nat) : Int) : Int) < ((a.length : Nat) : Int))))] [(2, .slot (.int ((a.length : Nat) : Int)))] (a2 (ln (l := a) (f := rS)) AllP.nil) (by kernel_rfl) ?_
    refine xw_cond (decide ((((i : Nat) : Int) : Int) < ((a.length : Nat) : Int))) rfl (fun h2 => ?_) (fun h2 => ?_)
    · have h2 := of_dT h2
      refine xw_skip ?_
      refine xw_seq ?_
      refine xw_block ?_
      obtain ⟨x1, hx1⟩ := get_lt (l := a) (i := i) (by omega)
      obtain ⟨x2, hx2⟩ := get_lt (l := b) (i := i) (by omega)
      refine vx c [(0, .lf (.im true (.sl 1 (a.map rS)))), (2, .lf (.im true (.sl 1 (b.map rS)))), (10, .int ((i : Nat) : Int)), (50, .bool (!(x1.toList == x2.toList)))] [(2, .row (rS x1)), (6, .row (rS x2))] (a2 (ix (f := rS) (l := a) (i := i) hx1) (a2 (ix (f := rS) (l := b) (i := i) hx2) AllP.nil)) (by kernel_rfl) ?_
      refine xw_cond (!(x1.toList == x2.toList)) rfl (fun h3 => ?_) (fun h3 => ?_)
      · have h3 : (x1.toList == x2.toList) = false := of_nT h3
        refine vx c [(8, .bool false)] [] AllP.nil (by kernel_rfl) ?_
        exact xret [.lf (.im true (.bool false))] rfl (by kernel_rfl) (retF (ne_at hx1 hx2 (by intro e; subst e; simp at h3)))
      · have h3 : (x1.toList == x2.toList) = true := of_nF h3
        refine xw_skip ?_
        exact vxe c [(0, .lf (.im true (.sl 1 (a.map rS)))), (2, .lf (.im true (.sl 1 (b.map rS)))), (10, .int ((i + 1 : Nat) : Int))] [(1, .slot (.int ((i + 1 : Nat) : Int)))] (a2 (wI (a := ((i : Nat) : Int) + 1) (b := ((i + 1 : Nat) : Int)) (by omega) (by omega) (by omega)) AllP.nil) (by kernel_rfl) (⟨_, by omega, (i + 1), rfl, rfl, ⟨by omega, (take_succ_eq hx1 hx2).2 ⟨hP1.2, bytes_eq.1 (by simpa using h3)⟩⟩⟩)
    · have h2 := of_dF h2
      refine xw_exit ?_
      refine vx c [(8, .bool true)] [] AllP.nil (by kernel_rfl) ?_
      exact xret [.lf (.im true (.bool true))] rfl (by kernel_rfl) (retT (all_take hl (by omega) hP1.2))
set_option maxRecDepth 100000 in
theorem laws_eqIntS_v (a b : List Int) (ha : a.length ≤ 140737488355328) :
    CallV Try.prog 25 [.lf (.im true (.sl 1 (a.map rI))), .lf (.im true (.sl 1 (b.map rI)))] (· = .bool (decide (a = b))) := by
  refine CallX (fn := Try.f25) TTok mixed Try.func25 rfl rfl rfl rfl rfl fun E c => ?_
  refine vx c [(0, .lf (.im true (.sl 1 (a.map rI)))), (2, .lf (.im true (.sl 1 (b.map rI))))] [] AllP.nil (by kernel_rfl) ?_
  refine xw_seq ?_
  refine vx c [(0, .lf (.im true (.sl 1 (a.map rI)))), (2, .lf (.im true (.sl 1 (b.map rI)))), (20, .bool (decide ((((a.length : Nat) : Int) : Int) ≠ ((b.length : Nat) : Int))))] [(1, .slot (.int ((a.length : Nat) : Int))), (3, .slot (.int ((b.length : Nat) : Int)))] (a2 (ln (l := a) (f := rI)) (a2 (ln (l := b) (f := rI)) AllP.nil)) (by kernel_rfl) ?_
  refine xw_cond (decide ((((a.length : Nat) : Int) : Int) ≠ ((b.length : Nat) : Int))) rfl (fun h1 => ?_) (fun h1 => ?_)
  · have h1 := of_dT h1
    refine vx c [(8, .bool false)] [] AllP.nil (by kernel_rfl) ?_
    exact xret [.lf (.im true (.bool false))] rfl (by kernel_rfl) (retF (ne_len h1))
  · have h1 := of_dF h1
    have hl : a.length = b.length := by omega
    refine xw_skip ?_
    refine xw_seq ?_
    refine vx c [(0, .lf (.im true (.sl 1 (a.map rI)))), (2, .lf (.im true (.sl 1 (b.map rI)))), (10, .int 0)] [] AllP.nil (by kernel_rfl) ?_
    refine xw_block ?_
    refine xw_loop (fun n L => ∃ (i : Nat), L = [(0, .lf (.im true (.sl 1 (a.map rI)))), (2, .lf (.im true (.sl 1 (b.map rI)))), (10, .int ((i : Nat) : Int))] ∧ n = a.length - i ∧ (i ≤ a.length ∧ a.take i = b.take i)) _ ⟨0, rfl, rfl, ⟨by omega, by simp⟩⟩ ?_
    rintro n L ⟨i, rfl, rfl, hP1⟩
    refine xw_seq ?_
    refine vx c [(0, .lf (.im true (.sl 1 (a.map rI)))), (2, .lf (.im true (.sl 1 (b.map rI)))), (10, .int ((i : Nat) : Int)), (28, .bool (decide ((((i : Nat) : Int) : Int) < ((a.length : Nat) : Int))))] [(2, .slot (.int ((a.length : Nat) : Int)))] (a2 (ln (l := a) (f := rI)) AllP.nil) (by kernel_rfl) ?_
    refine xw_cond (decide ((((i : Nat) : Int) : Int) < ((a.length : Nat) : Int))) rfl (fun h2 => ?_) (fun h2 => ?_)
    · have h2 := of_dT h2
      refine xw_skip ?_
      refine xw_seq ?_
      refine xw_block ?_
      obtain ⟨x1, hx1⟩ := get_lt (l := a) (i := i) (by omega)
      obtain ⟨x2, hx2⟩ := get_lt (l := b) (i := i) (by omega)
      refine vx c [(0, .lf (.im true (.sl 1 (a.map rI)))), (2, .lf (.im true (.sl 1 (b.map rI)))), (10, .int ((i : Nat) : Int)), (50, .bool (decide ((x1 : Int) ≠ x2)))] [(2, .row (rI x1)), (6, .row (rI x2))] (a2 (ix (f := rI) (l := a) (i := i) hx1) (a2 (ix (f := rI) (l := b) (i := i) hx2) AllP.nil)) (by kernel_rfl) ?_
      refine xw_cond (decide ((x1 : Int) ≠ x2)) rfl (fun h3 => ?_) (fun h3 => ?_)
      · have h3 := of_dT h3
        refine vx c [(8, .bool false)] [] AllP.nil (by kernel_rfl) ?_
        exact xret [.lf (.im true (.bool false))] rfl (by kernel_rfl) (retF (ne_at hx1 hx2 (h3)))
      · have h3 := of_dF h3
        refine xw_skip ?_
        exact vxe c [(0, .lf (.im true (.sl 1 (a.map rI)))), (2, .lf (.im true (.sl 1 (b.map rI)))), (10, .int ((i + 1 : Nat) : Int))] [(1, .slot (.int ((i + 1 : Nat) : Int)))] (a2 (wI (a := ((i : Nat) : Int) + 1) (b := ((i + 1 : Nat) : Int)) (by omega) (by omega) (by omega)) AllP.nil) (by kernel_rfl) (⟨_, by omega, (i + 1), rfl, rfl, ⟨by omega, (take_succ_eq hx1 hx2).2 ⟨hP1.2, by simpa using h3⟩⟩⟩)
    · have h2 := of_dF h2
      refine xw_exit ?_
      refine vx c [(8, .bool true)] [] AllP.nil (by kernel_rfl) ?_
      exact xret [.lf (.im true (.bool true))] rfl (by kernel_rfl) (retT (all_take hl (by omega) hP1.2))
set_option maxRecDepth 100000 in
theorem laws_eqRecord_v (a b : Rec) (hok : a.ok) :
    CallV Try.prog 35 [.agg [.im true (.int .i64 a.able), .im true (.sl 1 (a.fields.map rS))], .agg [.im true (.int .i64 b.able), .im true (.sl 1 (b.fields.map rS))]] (· = .bool (decide (a = b))) := by
  refine CallX (fn := Try.f35) TTok mixed Try.func35 rfl rfl rfl rfl rfl fun E c => ?_
  have b1 := hok.1
  refine vx c [(4, .lf (.ptr 2 0)), (5, .cell 2 [.im true (.int .i64 a.able), .im true (.sl 1 (a.fields.map rS))]), (6, .lf (.ptr 3 0)), (7, .cell 3 [.im true (.int .i64 b.able), .im true (.sl 1 (b.fields.map rS))])] [] AllP.nil (by kernel_rfl) ?_
  refine xw_seq ?_
  refine vx c [(4, .lf (.ptr 2 0)), (5, .cell 2 [.im true (.int .i64 a.able), .im true (.sl 1 (a.fields.map rS))]), (6, .lf (.ptr 3 0)), (7, .cell 3 [.im true (.int .i64 b.able), .im true (.sl 1 (b.fields.map rS))]), (18, .bool (decide ((a.able : Int) ≠ b.able)))] [] AllP.nil (by kernel_rfl) ?_
  refine xw_cond (decide ((a.able : Int) ≠ b.able)) rfl (fun h1 => ?_) (fun h1 => ?_)
  · have h1 := of_dT h1
    refine vx c [(8, .bool false)] [] AllP.nil (by kernel_rfl) ?_
    exact xret [.lf (.im true (.bool false))] rfl (by kernel_rfl) (retF (by intro e; rw [e] at h1; exact h1 rfl))
  · have h1 := of_dF h1
    refine xw_skip ?_
    refine xw_seq ?_
    refine vx c [(30, .bool (!(decide (a.fields = b.fields))))] [(4, .ret (.bool (decide (a.fields = b.fields))))] (a2 (cl tx49 (laws_eqStringS_v a.fields b.fields (by assumption))) AllP.nil) (by kernel_rfl) ?_
    refine xw_cond (!(decide (a.fields = b.fields))) rfl (fun h2 => ?_) (fun h2 => ?_)
    · have h2 : (decide (a.fields = b.fields)) = false := of_nT h2
      refine vx c [(8, .bool false)] [] AllP.nil (by kernel_rfl) ?_
      exact xret [.lf (.im true (.bool false))] rfl (by kernel_rfl) (retF (by intro e; rw [e] at h2; simp at h2))
    · have h2 : (decide (a.fields = b.fields)) = true := of_nF h2
      refine xw_skip ?_
      refine vx c [(8, .bool true)] [] AllP.nil (by kernel_rfl) ?_
      exact xret [.lf (.im true (.bool true))] rfl (by kernel_rfl) (retT (by have e0 : a.able = b.able := (by omega); have e1 : a.fields = b.fields := (by simpa using h2); cases a; cases b; simp at *; simp [e0, e1]))
set_option maxRecDepth 100000 in
theorem laws_eqIns_v (a b : Ins) (hok : a.ok) :
    CallV Try.prog 64 [.agg [.im true (.str a.op), .im true (.int .i64 a.a), .im true (.int .i64 a.b)], .agg [.im true (.str b.op), .im true (.int .i64 b.a), .im true (.int .i64 b.b)]] (· = .bool (decide (a = b))) := by
  refine CallX (fn := Try.f64) TTok mixed Try.func64 rfl rfl rfl rfl rfl fun E c => ?_
  refine vx c [(4, .lf (.ptr 2 0)), (5, .cell 2 [.im true (.str a.op), .im true (.int .i64 a.a), .im true (.int .i64 a.b)]), (6, .lf (.ptr 3 0)), (7, .cell 3 [.im true (.str b.op), .im true (.int .i64 b.a), .im true (.int .i64 b.b)])] [] AllP.nil (by kernel_rfl) ?_
  refine xw_seq ?_
  refine vx c [(4, .lf (.ptr 2 0)), (5, .cell 2 [.im true (.str a.op), .im true (.int .i64 a.a), .im true (.int .i64 a.b)]), (6, .lf (.ptr 3 0)), (7, .cell 3 [.im true (.str b.op), .im true (.int .i64 b.a), .im true (.int .i64 b.b)]), (18, .bool (!(a.op.toList == b.op.toList)))] [] AllP.nil (by kernel_rfl) ?_
  refine xw_cond (!(a.op.toList == b.op.toList)) rfl (fun h1 => ?_) (fun h1 => ?_)
  · have h1 : (a.op.toList == b.op.toList) = false := of_nT h1
    refine vx c [(8, .bool false)] [] AllP.nil (by kernel_rfl) ?_
    exact xret [.lf (.im true (.bool false))] rfl (by kernel_rfl) (retF (by intro e; rw [e] at h1; simp at h1))
  · have h1 : (a.op.toList == b.op.toList) = true := of_nF h1
    refine xw_skip ?_
    refine xw_seq ?_
    refine vx c [(4, .lf (.ptr 2 0)), (5, .cell 2 [.im true (.str a.op), .im true (.int .i64 a.a), .im true (.int .i64 a.b)]), (6, .lf (.ptr 3 0)), (7, .cell 3 [.im true (.str b.op), .im true (.int .i64 b.a), .im true (.int .i64 b.b)]), (28, .bool (decide ((a.a : Int) ≠ b.a)))] [] AllP.nil (by kernel_rfl) ?_
    refine xw_cond (decide ((a.a : Int) ≠ b.a)) rfl (fun h2 => ?_) (fun h2 => ?_)
    · have h2 := of_dT h2
      refine vx c [(8, .bool false)] [] AllP.nil (by kernel_rfl) ?_
      exact xret [.lf (.im true (.bool false))] rfl (by kernel_rfl) (retF (by intro e; rw [e] at h2; exact h2 rfl))
    · have h2 := of_dF h2
      refine xw_skip ?_
      refine xw_seq ?_
      refine vx c [(38, .bool (decide ((a.b : Int) ≠ b.b)))] [] AllP.nil (by kernel_rfl) ?_
      refine xw_cond (decide ((a.b : Int) ≠ b.b)) rfl (fun h3 => ?_) (fun h3 => ?_)
      · have h3 := of_dT h3
        refine vx c [(8, .bool false)] [] AllP.nil (by kernel_rfl) ?_
        exact xret [.lf (.im true (.bool false))] rfl (by kernel_rfl) (retF (by intro e; rw [e] at h3; exact h3 rfl))
      · have h3 := of_dF h3
        refine xw_skip ?_
        refine vx c [(8, .bool true)] [] AllP.nil (by kernel_rfl) ?_
        exact xret [.lf (.im true (.bool true))] rfl (by kernel_rfl) (retT (by have e0 : a.op = b.op := (by exact bytes_eq.1 (by simpa using h1)); have e1 : a.a = b.a := (by omega); have e2 : a.b = b.b := (by omega); cases a; cases b; simp at *; simp [e0, e1, e2]))
set_option maxRecDepth 100000 in
theorem laws_eqRecordS_v (a b : List Rec) (ha : a.length ≤ 140737488355328) (hok : ∀ x ∈ a, x.ok) :
    CallV Try.prog 23 [.lf (.im true (.sl 2 (a.map rRec))), .lf (.im true (.sl 2 (b.map rRec)))] (· = .bool (decide (a = b))) := by
  refine CallX (fn := Try.f23) TTok mixed Try.func23 rfl rfl rfl rfl rfl fun E c => ?_
  refine vx c [(0, .lf (.im true (.sl 2 (a.map rRec)))), (2, .lf (.im true (.sl 2 (b.map rRec))))] [] AllP.nil (by kernel_rfl) ?_
  refine xw_seq ?_
  refine vx c [(0, .lf (.im true (.sl 2 (a.map rRec)))), (2, .lf (.im true (.sl 2 (b.map rRec)))), (20, .bool (decide ((((a.length : Nat) : Int) : Int) ≠ ((b.length : Nat) : Int))))] [(1, .slot (.int ((a.length : Nat) : Int))), (3, .slot (.int ((b.length : Nat) : Int)))] (a2 (ln (l := a) (f := rRec)) (a2 (ln (l := b) (f := rRec)) AllP.nil)) (by kernel_rfl) ?_
  refine xw_cond (decide ((((a.length : Nat) : Int) : Int) ≠ ((b.length : Nat) : Int))) rfl (fun h1 => ?_) (fun h1 => ?_)
  · have h1 := of_dT h1
    refine vx c [(8, .bool false)] [] AllP.nil (by kernel_rfl) ?_
    exact xret [.lf (.im true (.bool false))] rfl (by kernel_rfl) (retF (ne_len h1))
  · have h1 := of_dF h1
    have hl : a.length = b.length := by omega
    refine xw_skip ?_
    refine xw_seq ?_
    refine vx c [(0, .lf (.im true (.sl 2 (a.map rRec)))), (2, .lf (.im true (.sl 2 (b.map rRec)))), (10, .int 0)] [] AllP.nil (by kernel_rfl) ?_
    refine xw_block ?_
    refine xw_loop (fun n L => ∃ (i : Nat), L = [(0, .lf (.im true (.sl 2 (a.map rRec)))), (2, .lf (.im true (.sl 2 (b.map rRec)))), (10, .int ((i : Nat) : Int))] ∧ n = a.length - i ∧ (i ≤ a.length ∧ a.take i = b.take i)) _ ⟨0, rfl, rfl, ⟨by omega, by simp⟩⟩ ?_
    rintro n L ⟨i, rfl, rfl, hP1⟩
    refine xw_seq ?_
    refine vx c [(0, .lf (.im true (.sl 2 (a.map rRec)))), (2, .lf (.im true (.sl 2 (b.map rRec)))), (10, .int ((i : Nat) : Int)), (28, .bool (decide ((((i : Nat) : Int) : Int) < ((a.length : Nat) : Int))))] [(2, .slot (.int ((a.length : Nat) : Int)))] (a2 (ln (l := a) (f := rRec)) AllP.nil) (by kernel_rfl) ?_
    refine xw_cond (decide ((((i : Nat) : Int) : Int) < ((a.length : Nat) : Int))) rfl (fun h2 => ?_) (fun h2 => ?_)
    · have h2 := of_dT h2
      refine xw_skip ?_
      refine xw_seq ?_
      refine xw_block ?_
      obtain ⟨x1, hx1⟩ := get_lt (l := a) (i := i) (by omega)
      obtain ⟨x2, hx2⟩ := get_lt (l := b) (i := i) (by omega)
      refine vx c [(0, .lf (.im true (.sl 2 (a.map rRec)))), (2, .lf (.im true (.sl 2 (b.map rRec)))), (10, .int ((i : Nat) : Int)), (52, .bool (!(decide (x1 = x2))))] [(2, .row (rRec x1)), (6, .row (rRec x2)), (8, .ret (.bool (decide (x1 = x2))))] (a2 (ix (f := rRec) (l := a) (i := i) hx1) (a2 (ix (f := rRec) (l := b) (i := i) hx2) (a2 (cl tx35 (laws_eqRecord_v x1 x2 (by exact mem_at hok hx1))) AllP.nil))) (by kernel_rfl) ?_
      refine xw_cond (!(decide (x1 = x2))) rfl (fun h3 => ?_) (fun h3 => ?_)
      · have h3 : (decide (x1 = x2)) = false := of_nT h3
        refine vx c [(8, .bool false)] [] AllP.nil (by kernel_rfl) ?_
        exact xret [.lf (.im true (.bool false))] rfl (by kernel_rfl) (retF (ne_at hx1 hx2 (by simpa using h3)))
      · have h3 : (decide (x1 = x2)) = true := of_nF h3
        refine xw_skip ?_
        exact vxe c [(0, .lf (.im true (.sl 2 (a.map rRec)))), (2, .lf (.im true (.sl 2 (b.map rRec)))), (10, .int ((i + 1 : Nat) : Int))] [(1, .slot (.int ((i + 1 : Nat) : Int)))] (a2 (wI (a := ((i : Nat) : Int) + 1) (b := ((i + 1 : Nat) : Int)) (by omega) (by omega) (by omega)) AllP.nil) (by kernel_rfl) (⟨_, by omega, (i + 1), rfl, rfl, ⟨by omega, (take_succ_eq hx1 hx2).2 ⟨hP1.2, by simpa using h3⟩⟩⟩)
    · have h2 := of_dF h2
      refine xw_exit ?_
      refine vx c [(8, .bool true)] [] AllP.nil (by kernel_rfl) ?_
      exact xret [.lf (.im true (.bool true))] rfl (by kernel_rfl) (retT (all_take hl (by omega) hP1.2))
set_option maxRecDepth 100000 in
theorem laws_eqInsS_v (a b : List Ins) (ha : a.length ≤ 140737488355328) (hok : ∀ x ∈ a, x.ok) :
    CallV Try.prog 50 [.lf (.im true (.sl 3 (a.map rIns))), .lf (.im true (.sl 3 (b.map rIns)))] (· = .bool (decide (a = b))) := by
  refine CallX (fn := Try.f50) TTok mixed Try.func50 rfl rfl rfl rfl rfl fun E c => ?_
  refine vx c [(0, .lf (.im true (.sl 3 (a.map rIns)))), (2, .lf (.im true (.sl 3 (b.map rIns))))] [] AllP.nil (by kernel_rfl) ?_
  refine xw_seq ?_
  refine vx c [(0, .lf (.im true (.sl 3 (a.map rIns)))), (2, .lf (.im true (.sl 3 (b.map rIns)))), (20, .bool (decide ((((a.length : Nat) : Int) : Int) ≠ ((b.length : Nat) : Int))))] [(1, .slot (.int ((a.length : Nat) : Int))), (3, .slot (.int ((b.length : Nat) : Int)))] (a2 (ln (l := a) (f := rIns)) (a2 (ln (l := b) (f := rIns)) AllP.nil)) (by kernel_rfl) ?_
  refine xw_cond (decide ((((a.length : Nat) : Int) : Int) ≠ ((b.length : Nat) : Int))) rfl (fun h1 => ?_) (fun h1 => ?_)
  · have h1 := of_dT h1
    refine vx c [(8, .bool false)] [] AllP.nil (by kernel_rfl) ?_
    exact xret [.lf (.im true (.bool false))] rfl (by kernel_rfl) (retF (ne_len h1))
  · have h1 := of_dF h1
    have hl : a.length = b.length := by omega
    refine xw_skip ?_
    refine xw_seq ?_
    refine vx c [(0, .lf (.im true (.sl 3 (a.map rIns)))), (2, .lf (.im true (.sl 3 (b.map rIns)))), (10, .int 0)] [] AllP.nil (by kernel_rfl) ?_
    refine xw_block ?_
    refine xw_loop (fun n L => ∃ (i : Nat), L = [(0, .lf (.im true (.sl 3 (a.map rIns)))), (2, .lf (.im true (.sl 3 (b.map rIns)))), (10, .int ((i : Nat) : Int))] ∧ n = a.length - i ∧ (i ≤ a.length ∧ a.take i = b.take i)) _ ⟨0, rfl, rfl, ⟨by omega, by simp⟩⟩ ?_
    rintro n L ⟨i, rfl, rfl, hP1⟩
    refine xw_seq ?_
    refine vx c [(0, .lf (.im true (.sl 3 (a.map rIns)))), (2, .lf (.im true (.sl 3 (b.map rIns)))), (10, .int ((i : Nat) : Int)), (28, .bool (decide ((((i : Nat) : Int) : Int) < ((a.length : Nat) : Int))))] [(2, .slot (.int ((a.length : Nat) : Int)))] (a2 (ln (l := a) (f := rIns)) AllP.nil) (by kernel_rfl) ?_
    refine xw_cond (decide ((((i : Nat) : Int) : Int) < ((a.length : Nat) : Int))) rfl (fun h2 => ?_) (fun h2 => ?_)
    · have h2 := of_dT h2
      refine xw_skip ?_
      refine xw_seq ?_
      refine xw_block ?_
      obtain ⟨x1, hx1⟩ := get_lt (l := a) (i := i) (by omega)
      obtain ⟨x2, hx2⟩ := get_lt (l := b) (i := i) (by omega)
      refine vx c [(0, .lf (.im true (.sl 3 (a.map rIns)))), (2, .lf (.im true (.sl 3 (b.map rIns)))), (10, .int ((i : Nat) : Int)), (52, .bool (!(decide (x1 = x2))))] [(2, .row (rIns x1)), (6, .row (rIns x2)), (8, .ret (.bool (decide (x1 = x2))))] (a2 (ix (f := rIns) (l := a) (i := i) hx1) (a2 (ix (f := rIns) (l := b) (i := i) hx2) (a2 (cl tx64 (laws_eqIns_v x1 x2 (by exact mem_at hok hx1))) AllP.nil))) (by kernel_rfl) ?_
      refine xw_cond (!(decide (x1 = x2))) rfl (fun h3 => ?_) (fun h3 => ?_)
      · have h3 : (decide (x1 = x2)) = false := of_nT h3
        refine vx c [(8, .bool false)] [] AllP.nil (by kernel_rfl) ?_
        exact xret [.lf (.im true (.bool false))] rfl (by kernel_rfl) (retF (ne_at hx1 hx2 (by simpa using h3)))
      · have h3 : (decide (x1 = x2)) = true := of_nF h3
        refine xw_skip ?_
        exact vxe c [(0, .lf (.im true (.sl 3 (a.map rIns)))), (2, .lf (.im true (.sl 3 (b.map rIns)))), (10, .int ((i + 1 : Nat) : Int))] [(1, .slot (.int ((i + 1 : Nat) : Int)))] (a2 (wI (a := ((i : Nat) : Int) + 1) (b := ((i + 1 : Nat) : Int)) (by omega) (by omega) (by omega)) AllP.nil) (by kernel_rfl) (⟨_, by omega, (i + 1), rfl, rfl, ⟨by omega, (take_succ_eq hx1 hx2).2 ⟨hP1.2, by simpa using h3⟩⟩⟩)
    · have h2 := of_dF h2
      refine xw_exit ?_
      refine vx c [(8, .bool true)] [] AllP.nil (by kernel_rfl) ?_
      exact xret [.lf (.im true (.bool true))] rfl (by kernel_rfl) (retT (all_take hl (by omega) hP1.2))
set_option maxRecDepth 100000 in
theorem laws_eqFunc_v (a b : Fn) (hok : a.ok) :
    CallV Try.prog 36 [.agg [.im true (.int .i64 a.seen), .im true (.sl 1 (a.args.map rS)), .im true (.sl 1 (a.rets.map rS)), .im true (.sl 1 (a.locals.map rS)), .im true (.sl 1 (a.takes.map rI)), .im true (.sl 3 (a.code.map rIns))], .agg [.im true (.int .i64 b.seen), .im true (.sl 1 (b.args.map rS)), .im true (.sl 1 (b.rets.map rS)), .im true (.sl 1 (b.locals.map rS)), .im true (.sl 1 (b.takes.map rI)), .im true (.sl 3 (b.code.map rIns))]] (· = .bool (decide (a = b))) := by
  refine CallX (fn := Try.f36) TTok mixed Try.func36 rfl rfl rfl rfl rfl fun E c => ?_
  have b1 := hok.1.1
  have b2 := hok.2.1.1
  have b3 := hok.2.2.1.1
  have b4 := hok.2.2.2.1
  have b5 := hok.2.2.2.2.1
  have b6 := hok.2.2.2.2.2
  refine vx c [(4, .lf (.ptr 2 0)), (5, .cell 2 [.im true (.int .i64 a.seen), .im true (.sl 1 (a.args.map rS)), .im true (.sl 1 (a.rets.map rS)), .im true (.sl 1 (a.locals.map rS)), .im true (.sl 1 (a.takes.map rI)), .im true (.sl 3 (a.code.map rIns))]), (6, .lf (.ptr 3 0)), (7, .cell 3 [.im true (.int .i64 b.seen), .im true (.sl 1 (b.args.map rS)), .im true (.sl 1 (b.rets.map rS)), .im true (.sl 1 (b.locals.map rS)), .im true (.sl 1 (b.takes.map rI)), .im true (.sl 3 (b.code.map rIns))])] [] AllP.nil (by kernel_rfl) ?_
  refine xw_seq ?_
  refine vx c [(4, .lf (.ptr 2 0)), (5, .cell 2 [.im true (.int .i64 a.seen), .im true (.sl 1 (a.args.map rS)), .im true (.sl 1 (a.rets.map rS)), .im true (.sl 1 (a.locals.map rS)), .im true (.sl 1 (a.takes.map rI)), .im true (.sl 3 (a.code.map rIns))]), (6, .lf (.ptr 3 0)), (7, .cell 3 [.im true (.int .i64 b.seen), .im true (.sl 1 (b.args.map rS)), .im true (.sl 1 (b.rets.map rS)), .im true (.sl 1 (b.locals.map rS)), .im true (.sl 1 (b.takes.map rI)), .im true (.sl 3 (b.code.map rIns))]), (18, .bool (decide ((a.seen : Int) ≠ b.seen)))] [] AllP.nil (by kernel_rfl) ?_
  refine xw_cond (decide ((a.seen : Int) ≠ b.seen)) rfl (fun h1 => ?_) (fun h1 => ?_)
  · have h1 := of_dT h1
    refine vx c [(8, .bool false)] [] AllP.nil (by kernel_rfl) ?_
    exact xret [.lf (.im true (.bool false))] rfl (by kernel_rfl) (retF (by intro e; rw [e] at h1; exact h1 rfl))
  · have h1 := of_dF h1
    refine xw_skip ?_
    refine xw_seq ?_
    refine vx c [(4, .lf (.ptr 2 0)), (5, .cell 2 [.im true (.int .i64 a.seen), .im true (.sl 1 (a.args.map rS)), .im true (.sl 1 (a.rets.map rS)), .im true (.sl 1 (a.locals.map rS)), .im true (.sl 1 (a.takes.map rI)), .im true (.sl 3 (a.code.map rIns))]), (6, .lf (.ptr 3 0)), (7, .cell 3 [.im true (.int .i64 b.seen), .im true (.sl 1 (b.args.map rS)), .im true (.sl 1 (b.rets.map rS)), .im true (.sl 1 (b.locals.map rS)), .im true (.sl 1 (b.takes.map rI)), .im true (.sl 3 (b.code.map rIns))]), (30, .bool (!(decide (a.args = b.args))))] [(4, .ret (.bool (decide (a.args = b.args))))] (a2 (cl tx49 (laws_eqStringS_v a.args b.args (by assumption))) AllP.nil) (by kernel_rfl) ?_
    refine xw_cond (!(decide (a.args = b.args))) rfl (fun h2 => ?_) (fun h2 => ?_)
    · have h2 : (decide (a.args = b.args)) = false := of_nT h2
      refine vx c [(8, .bool false)] [] AllP.nil (by kernel_rfl) ?_
      exact xret [.lf (.im true (.bool false))] rfl (by kernel_rfl) (retF (by intro e; rw [e] at h2; simp at h2))
    · have h2 : (decide (a.args = b.args)) = true := of_nF h2
      refine xw_skip ?_
      refine xw_seq ?_
      refine vx c [(4, .lf (.ptr 2 0)), (5, .cell 2 [.im true (.int .i64 a.seen), .im true (.sl 1 (a.args.map rS)), .im true (.sl 1 (a.rets.map rS)), .im true (.sl 1 (a.locals.map rS)), .im true (.sl 1 (a.takes.map rI)), .im true (.sl 3 (a.code.map rIns))]), (6, .lf (.ptr 3 0)), (7, .cell 3 [.im true (.int .i64 b.seen), .im true (.sl 1 (b.args.map rS)), .im true (.sl 1 (b.rets.map rS)), .im true (.sl 1 (b.locals.map rS)), .im true (.sl 1 (b.takes.map rI)), .im true (.sl 3 (b.code.map rIns))]), (42, .bool (!(decide (a.rets = b.rets))))] [(4, .ret (.bool (decide (a.rets = b.rets))))] (a2 (cl tx49 (laws_eqStringS_v a.rets b.rets (by assumption))) AllP.nil) (by kernel_rfl) ?_
      refine xw_cond (!(decide (a.rets = b.rets))) rfl (fun h3 => ?_) (fun h3 => ?_)
      · have h3 : (decide (a.rets = b.rets)) = false := of_nT h3
        refine vx c [(8, .bool false)] [] AllP.nil (by kernel_rfl) ?_
        exact xret [.lf (.im true (.bool false))] rfl (by kernel_rfl) (retF (by intro e; rw [e] at h3; simp at h3))
      · have h3 : (decide (a.rets = b.rets)) = true := of_nF h3
        refine xw_skip ?_
        refine xw_seq ?_
        refine vx c [(4, .lf (.ptr 2 0)), (5, .cell 2 [.im true (.int .i64 a.seen), .im true (.sl 1 (a.args.map rS)), .im true (.sl 1 (a.rets.map rS)), .im true (.sl 1 (a.locals.map rS)), .im true (.sl 1 (a.takes.map rI)), .im true (.sl 3 (a.code.map rIns))]), (6, .lf (.ptr 3 0)), (7, .cell 3 [.im true (.int .i64 b.seen), .im true (.sl 1 (b.args.map rS)), .im true (.sl 1 (b.rets.map rS)), .im true (.sl 1 (b.locals.map rS)), .im true (.sl 1 (b.takes.map rI)), .im true (.sl 3 (b.code.map rIns))]), (54, .bool (!(decide (a.locals = b.locals))))] [(4, .ret (.bool (decide (a.locals = b.locals))))] (a2 (cl tx49 (laws_eqStringS_v a.locals b.locals (by assumption))) AllP.nil) (by kernel_rfl) ?_
        refine xw_cond (!(decide (a.locals = b.locals))) rfl (fun h4 => ?_) (fun h4 => ?_)
        · have h4 : (decide (a.locals = b.locals)) = false := of_nT h4
          refine vx c [(8, .bool false)] [] AllP.nil (by kernel_rfl) ?_
          exact xret [.lf (.im true (.bool false))] rfl (by kernel_rfl) (retF (by intro e; rw [e] at h4; simp at h4))
        · have h4 : (decide (a.locals = b.locals)) = true := of_nF h4
          refine xw_skip ?_
          refine xw_seq ?_
          refine vx c [(4, .lf (.ptr 2 0)), (5, .cell 2 [.im true (.int .i64 a.seen), .im true (.sl 1 (a.args.map rS)), .im true (.sl 1 (a.rets.map rS)), .im true (.sl 1 (a.locals.map rS)), .im true (.sl 1 (a.takes.map rI)), .im true (.sl 3 (a.code.map rIns))]), (6, .lf (.ptr 3 0)), (7, .cell 3 [.im true (.int .i64 b.seen), .im true (.sl 1 (b.args.map rS)), .im true (.sl 1 (b.rets.map rS)), .im true (.sl 1 (b.locals.map rS)), .im true (.sl 1 (b.takes.map rI)), .im true (.sl 3 (b.code.map rIns))]), (66, .bool (!(decide (a.takes = b.takes))))] [(4, .ret (.bool (decide (a.takes = b.takes))))] (a2 (cl tx25 (laws_eqIntS_v a.takes b.takes (by assumption))) AllP.nil) (by kernel_rfl) ?_
          refine xw_cond (!(decide (a.takes = b.takes))) rfl (fun h5 => ?_) (fun h5 => ?_)
          · have h5 : (decide (a.takes = b.takes)) = false := of_nT h5
            refine vx c [(8, .bool false)] [] AllP.nil (by kernel_rfl) ?_
            exact xret [.lf (.im true (.bool false))] rfl (by kernel_rfl) (retF (by intro e; rw [e] at h5; simp at h5))
          · have h5 : (decide (a.takes = b.takes)) = true := of_nF h5
            refine xw_skip ?_
            refine xw_seq ?_
            refine vx c [(78, .bool (!(decide (a.code = b.code))))] [(4, .ret (.bool (decide (a.code = b.code))))] (a2 (cl tx50 (laws_eqInsS_v a.code b.code (by assumption) (by assumption))) AllP.nil) (by kernel_rfl) ?_
            refine xw_cond (!(decide (a.code = b.code))) rfl (fun h6 => ?_) (fun h6 => ?_)
            · have h6 : (decide (a.code = b.code)) = false := of_nT h6
              refine vx c [(8, .bool false)] [] AllP.nil (by kernel_rfl) ?_
              exact xret [.lf (.im true (.bool false))] rfl (by kernel_rfl) (retF (by intro e; rw [e] at h6; simp at h6))
            · have h6 : (decide (a.code = b.code)) = true := of_nF h6
              refine xw_skip ?_
              refine vx c [(8, .bool true)] [] AllP.nil (by kernel_rfl) ?_
              exact xret [.lf (.im true (.bool true))] rfl (by kernel_rfl) (retT (by have e0 : a.seen = b.seen := (by omega); have e1 : a.args = b.args := (by simpa using h2); have e2 : a.rets = b.rets := (by simpa using h3); have e3 : a.locals = b.locals := (by simpa using h4); have e4 : a.takes = b.takes := (by simpa using h5); have e5 : a.code = b.code := (by simpa using h6); cases a; cases b; simp at *; simp [e0, e1, e2, e3, e4, e5]))
set_option maxRecDepth 100000 in
theorem laws_eqFuncS_v (a b : List Fn) (ha : a.length ≤ 140737488355328) (hok : ∀ x ∈ a, x.ok) :
    CallV Try.prog 24 [.lf (.im true (.sl 6 (a.map rFn))), .lf (.im true (.sl 6 (b.map rFn)))] (· = .bool (decide (a = b))) := by
  refine CallX (fn := Try.f24) TTok mixed Try.func24 rfl rfl rfl rfl rfl fun E c => ?_
  refine vx c [(0, .lf (.im true (.sl 6 (a.map rFn)))), (2, .lf (.im true (.sl 6 (b.map rFn))))] [] AllP.nil (by kernel_rfl) ?_
  refine xw_seq ?_
  refine vx c [(0, .lf (.im true (.sl 6 (a.map rFn)))), (2, .lf (.im true (.sl 6 (b.map rFn)))), (20, .bool (decide ((((a.length : Nat) : Int) : Int) ≠ ((b.length : Nat) : Int))))] [(1, .slot (.int ((a.length : Nat) : Int))), (3, .slot (.int ((b.length : Nat) : Int)))] (a2 (ln (l := a) (f := rFn)) (a2 (ln (l := b) (f := rFn)) AllP.nil)) (by kernel_rfl) ?_
  refine xw_cond (decide ((((a.length : Nat) : Int) : Int) ≠ ((b.length : Nat) : Int))) rfl (fun h1 => ?_) (fun h1 => ?_)
  · have h1 := of_dT h1
    refine vx c [(8, .bool false)] [] AllP.nil (by kernel_rfl) ?_
    exact xret [.lf (.im true (.bool false))] rfl (by kernel_rfl) (retF (ne_len h1))
  · have h1 := of_dF h1
    have hl : a.length = b.length := by omega
    refine xw_skip ?_
    refine xw_seq ?_
    refine vx c [(0, .lf (.im true (.sl 6 (a.map rFn)))), (2, .lf (.im true (.sl 6 (b.map rFn)))), (10, .int 0)] [] AllP.nil (by kernel_rfl) ?_
    refine xw_block ?_
    refine xw_loop (fun n L => ∃ (i : Nat), L = [(0, .lf (.im true (.sl 6 (a.map rFn)))), (2, .lf (.im true (.sl 6 (b.map rFn)))), (10, .int ((i : Nat) : Int))] ∧ n = a.length - i ∧ (i ≤ a.length ∧ a.take i = b.take i)) _ ⟨0, rfl, rfl, ⟨by omega, by simp⟩⟩ ?_
    rintro n L ⟨i, rfl, rfl, hP1⟩
    refine xw_seq ?_
    refine vx c [(0, .lf (.im true (.sl 6 (a.map rFn)))), (2, .lf (.im true (.sl 6 (b.map rFn)))), (10, .int ((i : Nat) : Int)), (28, .bool (decide ((((i : Nat) : Int) : Int) < ((a.length : Nat) : Int))))] [(2, .slot (.int ((a.length : Nat) : Int)))] (a2 (ln (l := a) (f := rFn)) AllP.nil) (by kernel_rfl) ?_
    refine xw_cond (decide ((((i : Nat) : Int) : Int) < ((a.length : Nat) : Int))) rfl (fun h2 => ?_) (fun h2 => ?_)
    · have h2 := of_dT h2
      refine xw_skip ?_
      refine xw_seq ?_
      refine xw_block ?_
      obtain ⟨x1, hx1⟩ := get_lt (l := a) (i := i) (by omega)
      obtain ⟨x2, hx2⟩ := get_lt (l := b) (i := i) (by omega)
      refine vx c [(0, .lf (.im true (.sl 6 (a.map rFn)))), (2, .lf (.im true (.sl 6 (b.map rFn)))), (10, .int ((i : Nat) : Int)), (52, .bool (!(decide (x1 = x2))))] [(2, .row (rFn x1)), (6, .row (rFn x2)), (8, .ret (.bool (decide (x1 = x2))))] (a2 (ix (f := rFn) (l := a) (i := i) hx1) (a2 (ix (f := rFn) (l := b) (i := i) hx2) (a2 (cl tx36 (laws_eqFunc_v x1 x2 (by exact mem_at hok hx1))) AllP.nil))) (by kernel_rfl) ?_
      refine xw_cond (!(decide (x1 = x2))) rfl (fun h3 => ?_) (fun h3 => ?_)
      · have h3 : (decide (x1 = x2)) = false := of_nT h3
        refine vx c [(8, .bool false)] [] AllP.nil (by kernel_rfl) ?_
        exact xret [.lf (.im true (.bool false))] rfl (by kernel_rfl) (retF (ne_at hx1 hx2 (by simpa using h3)))
      · have h3 : (decide (x1 = x2)) = true := of_nF h3
        refine xw_skip ?_
        exact vxe c [(0, .lf (.im true (.sl 6 (a.map rFn)))), (2, .lf (.im true (.sl 6 (b.map rFn)))), (10, .int ((i + 1 : Nat) : Int))] [(1, .slot (.int ((i + 1 : Nat) : Int)))] (a2 (wI (a := ((i : Nat) : Int) + 1) (b := ((i + 1 : Nat) : Int)) (by omega) (by omega) (by omega)) AllP.nil) (by kernel_rfl) (⟨_, by omega, (i + 1), rfl, rfl, ⟨by omega, (take_succ_eq hx1 hx2).2 ⟨hP1.2, by simpa using h3⟩⟩⟩)
    · have h2 := of_dF h2
      refine xw_exit ?_
      refine vx c [(8, .bool true)] [] AllP.nil (by kernel_rfl) ?_
      exact xret [.lf (.im true (.bool true))] rfl (by kernel_rfl) (retT (all_take hl (by omega) hP1.2))
set_option maxRecDepth 100000 in
theorem laws_eqModule_v (a b : Mod) (hok : a.ok) :
    CallV Try.prog 9 [.agg [.im true (.sl 2 (a.records.map rRec)), .im true (.sl 6 (a.funcs.map rFn)), .im true (.sl 1 (a.friends.map rI))], .agg [.im true (.sl 2 (b.records.map rRec)), .im true (.sl 6 (b.funcs.map rFn)), .im true (.sl 1 (b.friends.map rI))]] (· = .bool (decide (a = b))) := by
  refine CallX (fn := Try.f9) TTok mixed Try.func9 rfl rfl rfl rfl rfl fun E c => ?_
  have b1 := hok.1.1
  have b2 := hok.1.2
  have b3 := hok.2.1.1
  have b4 := hok.2.1.2
  have b5 := hok.2.2
  refine vx c [(4, .lf (.ptr 2 0)), (5, .cell 2 [.im true (.sl 2 (a.records.map rRec)), .im true (.sl 6 (a.funcs.map rFn)), .im true (.sl 1 (a.friends.map rI))]), (6, .lf (.ptr 3 0)), (7, .cell 3 [.im true (.sl 2 (b.records.map rRec)), .im true (.sl 6 (b.funcs.map rFn)), .im true (.sl 1 (b.friends.map rI))])] [] AllP.nil (by kernel_rfl) ?_
  refine xw_seq ?_
  refine vx c [(4, .lf (.ptr 2 0)), (5, .cell 2 [.im true (.sl 2 (a.records.map rRec)), .im true (.sl 6 (a.funcs.map rFn)), .im true (.sl 1 (a.friends.map rI))]), (6, .lf (.ptr 3 0)), (7, .cell 3 [.im true (.sl 2 (b.records.map rRec)), .im true (.sl 6 (b.funcs.map rFn)), .im true (.sl 1 (b.friends.map rI))]), (20, .bool (!(decide (a.records = b.records))))] [(4, .ret (.bool (decide (a.records = b.records))))] (a2 (cl tx23 (laws_eqRecordS_v a.records b.records (by assumption) (by assumption))) AllP.nil) (by kernel_rfl) ?_
  refine xw_cond (!(decide (a.records = b.records))) rfl (fun h1 => ?_) (fun h1 => ?_)
  · have h1 : (decide (a.records = b.records)) = false := of_nT h1
    refine vx c [(8, .bool false)] [] AllP.nil (by kernel_rfl) ?_
    exact xret [.lf (.im true (.bool false))] rfl (by kernel_rfl) (retF (by intro e; rw [e] at h1; simp at h1))
  · have h1 : (decide (a.records = b.records)) = true := of_nF h1
    refine xw_skip ?_
    refine xw_seq ?_
    refine vx c [(4, .lf (.ptr 2 0)), (5, .cell 2 [.im true (.sl 2 (a.records.map rRec)), .im true (.sl 6 (a.funcs.map rFn)), .im true (.sl 1 (a.friends.map rI))]), (6, .lf (.ptr 3 0)), (7, .cell 3 [.im true (.sl 2 (b.records.map rRec)), .im true (.sl 6 (b.funcs.map rFn)), .im true (.sl 1 (b.friends.map rI))]), (32, .bool (!(decide (a.funcs = b.funcs))))] [(4, .ret (.bool (decide (a.funcs = b.funcs))))] (a2 (cl tx24 (laws_eqFuncS_v a.funcs b.funcs (by assumption) (by assumption))) AllP.nil) (by kernel_rfl) ?_
    refine xw_cond (!(decide (a.funcs = b.funcs))) rfl (fun h2 => ?_) (fun h2 => ?_)
    · have h2 : (decide (a.funcs = b.funcs)) = false := of_nT h2
      refine vx c [(8, .bool false)] [] AllP.nil (by kernel_rfl) ?_
      exact xret [.lf (.im true (.bool false))] rfl (by kernel_rfl) (retF (by intro e; rw [e] at h2; simp at h2))
    · have h2 : (decide (a.funcs = b.funcs)) = true := of_nF h2
      refine xw_skip ?_
      refine xw_seq ?_
      refine vx c [(44, .bool (!(decide (a.friends = b.friends))))] [(4, .ret (.bool (decide (a.friends = b.friends))))] (a2 (cl tx25 (laws_eqIntS_v a.friends b.friends (by assumption))) AllP.nil) (by kernel_rfl) ?_
      refine xw_cond (!(decide (a.friends = b.friends))) rfl (fun h3 => ?_) (fun h3 => ?_)
      · have h3 : (decide (a.friends = b.friends)) = false := of_nT h3
        refine vx c [(8, .bool false)] [] AllP.nil (by kernel_rfl) ?_
        exact xret [.lf (.im true (.bool false))] rfl (by kernel_rfl) (retF (by intro e; rw [e] at h3; simp at h3))
      · have h3 : (decide (a.friends = b.friends)) = true := of_nF h3
        refine xw_skip ?_
        refine vx c [(8, .bool true)] [] AllP.nil (by kernel_rfl) ?_
        exact xret [.lf (.im true (.bool true))] rfl (by kernel_rfl) (retT (by have e0 : a.records = b.records := (by simpa using h1); have e1 : a.funcs = b.funcs := (by simpa using h2); have e2 : a.friends = b.friends := (by simpa using h3); cases a; cases b; simp at *; simp [e0, e1, e2]))
set_option maxRecDepth 100000 in
theorem laws_szStringS_v (a : List ByteArray) (hok : okS a) (left : Int) (l0 : 0 ≤ left) (l1 : left ≤ 1048576) :
    CallV Try.prog 45 [.lf (.im true (.sl 1 (a.map rS))), .lf (.im true (.int .i64 left))] (· = .int (szR (wS a) left)) := by
  refine CallX (fn := Try.f45) TTok mixed Try.func45 rfl rfl rfl rfl rfl fun E c => ?_
  have ha := hok.1
  refine vx c [(0, .lf (.im true (.sl 1 (a.map rS)))), (2, .int left)] [] AllP.nil (by kernel_rfl) ?_
  refine vx c [(0, .lf (.im true (.sl 1 (a.map rS)))), (2, .int (left - ((a.length : Nat) : Int)))] [(2, .slot (.int ((a.length : Nat) : Int))), (3, .slot (.int (left - ((a.length : Nat) : Int))))] (a2 (ln (l := a) (f := rS)) (a2 (wI (a := left - ((a.length : Nat) : Int)) (b := left - ((a.length : Nat) : Int)) (by omega) (by omega) (by omega)) AllP.nil)) (by kernel_rfl) ?_
  refine xw_seq ?_
  refine vx c [(0, .lf (.im true (.sl 1 (a.map rS)))), (2, .int (left - ((a.length : Nat) : Int))), (22, .bool (decide ((left - ((a.length : Nat) : Int) : Int) < 0)))] [] AllP.nil (by kernel_rfl) ?_
  refine xw_cond (decide ((left - ((a.length : Nat) : Int) : Int) < 0)) rfl (fun h1 => ?_) (fun h1 => ?_)
  · have h1 := of_dT h1
    refine vx c [(8, .int (-1))] [] AllP.nil (by kernel_rfl) ?_
    exact xret [.lf (.im true (.int .i64 (-1)))] rfl (by kernel_rfl) (retI (szR_no (by unfold wS; omega)))
  · have h1 := of_dF h1
    refine xw_skip ?_
    refine xw_seq ?_
    refine vx c [(0, .lf (.im true (.sl 1 (a.map rS)))), (2, .int (left - ((a.length : Nat) : Int))), (10, .int 0)] [] AllP.nil (by kernel_rfl) ?_
    refine xw_block ?_
    refine xw_loop (fun n L => ∃ (i : Nat) (cur : Int), L = [(0, .lf (.im true (.sl 1 (a.map rS)))), (2, .int cur), (10, .int ((i : Nat) : Int))] ∧ n = a.length - i ∧ (i ≤ a.length ∧ 0 ≤ cur ∧ cur = left - ((a.length + sumTo ByteArray.size a i : Nat) : Int))) _ ⟨0, (left - ((a.length : Nat) : Int)), rfl, rfl, ⟨by omega, by omega, by rw [sumTo_zero]; omega⟩⟩ ?_
    rintro n L ⟨i, cur, rfl, rfl, hP1⟩
    refine xw_seq ?_
    refine vx c [(0, .lf (.im true (.sl 1 (a.map rS)))), (2, .int cur), (10, .int ((i : Nat) : Int)), (30, .bool (decide ((((i : Nat) : Int) : Int) < ((a.length : Nat) : Int))))] [(2, .slot (.int ((a.length : Nat) : Int)))] (a2 (ln (l := a) (f := rS)) AllP.nil) (by kernel_rfl) ?_
    refine xw_cond (decide ((((i : Nat) : Int) : Int) < ((a.length : Nat) : Int))) rfl (fun h2 => ?_) (fun h2 => ?_)
    · have h2 := of_dT h2
      refine xw_skip ?_
      refine xw_seq ?_
      refine xw_block ?_
      obtain ⟨x1, hx1⟩ := get_lt (l := a) (i := i) (by omega)
      have bx1 : x1.size ≤ 140737488355328 := hok.2 _ (List.mem_of_getElem? hx1)
      refine vx c [(0, .lf (.im true (.sl 1 (a.map rS)))), (2, .int (cur - ((x1.size : Nat) : Int))), (10, .int ((i : Nat) : Int))] [(3, .row (rS x1)), (6, .slot (.int (cur - ((x1.size : Nat) : Int))))] (a2 (ix (f := rS) (l := a) (i := i) hx1) (a2 (wI (a := cur - ((x1.size : Nat) : Int)) (b := cur - ((x1.size : Nat) : Int)) (by omega) (by omega) (by omega)) AllP.nil)) (by kernel_rfl) ?_
      refine vx c [(0, .lf (.im true (.sl 1 (a.map rS)))), (2, .int (cur - ((x1.size : Nat) : Int))), (10, .int ((i : Nat) : Int)), (52, .bool (decide ((cur - ((x1.size : Nat) : Int) : Int) < 0)))] [] AllP.nil (by kernel_rfl) ?_
      refine xw_cond (decide ((cur - ((x1.size : Nat) : Int) : Int) < 0)) rfl (fun h3 => ?_) (fun h3 => ?_)
      · have h3 := of_dT h3
        refine vx c [(8, .int (-1))] [] AllP.nil (by kernel_rfl) ?_
        exact xret [.lf (.im true (.int .i64 (-1)))] rfl (by kernel_rfl) (retI (szR_no (by have := sumTo_le ByteArray.size a (i + 1); rw [sumTo_succ hx1] at this; unfold wS; omega)))
      · have h3 := of_dF h3
        refine xw_skip ?_
        exact vxe c [(0, .lf (.im true (.sl 1 (a.map rS)))), (2, .int (cur - ((x1.size : Nat) : Int))), (10, .int ((i + 1 : Nat) : Int))] [(1, .slot (.int ((i + 1 : Nat) : Int)))] (a2 (wI (a := ((i : Nat) : Int) + 1) (b := ((i + 1 : Nat) : Int)) (by omega) (by omega) (by omega)) AllP.nil) (by kernel_rfl) (⟨_, by omega, (i + 1), (cur - ((x1.size : Nat) : Int)), rfl, rfl, ⟨by omega, by omega, by rw [sumTo_succ hx1]; omega⟩⟩)
    · have h2 := of_dF h2
      refine xw_exit ?_
      refine vx c [(8, .int cur)] [] AllP.nil (by kernel_rfl) ?_
      exact xret [.lf (.im true (.int .i64 cur))] rfl (by kernel_rfl) (retI (szR_yes hP1.2.1 (by have := hP1.2.2; rw [sumTo_all (by omega)] at this; unfold wS; exact this)))
set_option maxRecDepth 100000 in
theorem laws_szIntS_v (a : List Int) (ha : a.length ≤ 140737488355328) (left : Int) (l0 : 0 ≤ left) (l1 : left ≤ 1048576) :
    CallV Try.prog 14 [.lf (.im true (.sl 1 (a.map rI))), .lf (.im true (.int .i64 left))] (· = .int (szR a.length left)) := by
  refine CallX (fn := Try.f14) TTok mixed Try.func14 rfl rfl rfl rfl rfl fun E c => ?_
  refine vx c [(0, .lf (.im true (.sl 1 (a.map rI)))), (2, .int left)] [] AllP.nil (by kernel_rfl) ?_
  refine vx c [(2, .int (left - ((a.length : Nat) : Int)))] [(2, .slot (.int ((a.length : Nat) : Int))), (3, .slot (.int (left - ((a.length : Nat) : Int))))] (a2 (ln (l := a) (f := rI)) (a2 (wI (a := left - ((a.length : Nat) : Int)) (b := left - ((a.length : Nat) : Int)) (by omega) (by omega) (by omega)) AllP.nil)) (by kernel_rfl) ?_
  refine xw_seq ?_
  refine vx c [(2, .int (left - ((a.length : Nat) : Int))), (20, .bool (decide ((left - ((a.length : Nat) : Int) : Int) < 0)))] [] AllP.nil (by kernel_rfl) ?_
  refine xw_cond (decide ((left - ((a.length : Nat) : Int) : Int) < 0)) rfl (fun h1 => ?_) (fun h1 => ?_)
  · have h1 := of_dT h1
    refine vx c [(8, .int (-1))] [] AllP.nil (by kernel_rfl) ?_
    exact xret [.lf (.im true (.int .i64 (-1)))] rfl (by kernel_rfl) (retI (szR_no (by omega)))
  · have h1 := of_dF h1
    refine xw_skip ?_
    refine vx c [(8, .int (left - ((a.length : Nat) : Int)))] [] AllP.nil (by kernel_rfl) ?_
    exact xret [.lf (.im true (.int .i64 (left - ((a.length : Nat) : Int))))] rfl (by kernel_rfl) (retI (szR_yes (by omega) (by omega)))
set_option maxRecDepth 100000 in
theorem laws_szRecord_v (a : Rec) (hok : a.ok) (left : Int) (l0 : 0 ≤ left) (l1 : left ≤ 1048576) :
    CallV Try.prog 30 [.agg [.im true (.int .i64 a.able), .im true (.sl 1 (a.fields.map rS))], .lf (.im true (.int .i64 left))] (· = .int (szR (wRec a) left)) := by
  refine CallX (fn := Try.f30) TTok mixed Try.func30 rfl rfl rfl rfl rfl fun E c => ?_
  have b1 := hok
  refine vx c [(2, .int left), (4, .lf (.ptr 2 0)), (5, .cell 2 [.im true (.int .i64 a.able), .im true (.sl 1 (a.fields.map rS))])] [] AllP.nil (by kernel_rfl) ?_
  refine vx c [(2, .int (szR (wS a.fields) left))] [(3, .ret (.int (szR (wS a.fields) left)))] (a2 (cl tx45 (laws_szStringS_v a.fields (by assumption) left (by omega) (by omega))) AllP.nil) (by kernel_rfl) ?_
  refine xw_seq ?_
  refine vx c [(2, .int (szR (wS a.fields) left)), (20, .bool (decide ((szR (wS a.fields) left : Int) < 0)))] [] AllP.nil (by kernel_rfl) ?_
  refine xw_cond (decide ((szR (wS a.fields) left : Int) < 0)) rfl (fun h1 => ?_) (fun h1 => ?_)
  · have h1 := of_dT h1
    refine vx c [(8, .int (-1))] [] AllP.nil (by kernel_rfl) ?_
    exact xret [.lf (.im true (.int .i64 (-1)))] rfl (by kernel_rfl) (retI (szR_no (by have := szR_neg h1; unfold wRec; omega)))
  · have h1 := of_dF h1
    have e1 := szR_pos h1 (by omega)
    refine xw_skip ?_
    refine vx c [(8, .int (szR (wS a.fields) left))] [] AllP.nil (by kernel_rfl) ?_
    exact xret [.lf (.im true (.int .i64 (szR (wS a.fields) left)))] rfl (by kernel_rfl) (retI (szR_yes (by omega) (by unfold wRec; omega)))
set_option maxRecDepth 100000 in
theorem laws_szRecordS_v (a : List Rec) (ha : a.length ≤ 140737488355328) (hok : ∀ x ∈ a, x.ok) (left : Int) (l0 : 0 ≤ left) (l1 : left ≤ 1048576) :
    CallV Try.prog 12 [.lf (.im true (.sl 2 (a.map rRec))), .lf (.im true (.int .i64 left))] (· = .int (szR (wRecs a) left)) := by
  refine CallX (fn := Try.f12) TTok mixed Try.func12 rfl rfl rfl rfl rfl fun E c => ?_
  refine vx c [(0, .lf (.im true (.sl 2 (a.map rRec)))), (2, .int left)] [] AllP.nil (by kernel_rfl) ?_
  refine vx c [(0, .lf (.im true (.sl 2 (a.map rRec)))), (2, .int (left - ((a.length : Nat) : Int)))] [(2, .slot (.int ((a.length : Nat) : Int))), (3, .slot (.int (left - ((a.length : Nat) : Int))))] (a2 (ln (l := a) (f := rRec)) (a2 (wI (a := left - ((a.length : Nat) : Int)) (b := left - ((a.length : Nat) : Int)) (by omega) (by omega) (by omega)) AllP.nil)) (by kernel_rfl) ?_
  refine xw_seq ?_
  refine vx c [(0, .lf (.im true (.sl 2 (a.map rRec)))), (2, .int (left - ((a.length : Nat) : Int))), (22, .bool (decide ((left - ((a.length : Nat) : Int) : Int) < 0)))] [] AllP.nil (by kernel_rfl) ?_
  refine xw_cond (decide ((left - ((a.length : Nat) : Int) : Int) < 0)) rfl (fun h1 => ?_) (fun h1 => ?_)
  · have h1 := of_dT h1
    refine vx c [(8, .int (-1))] [] AllP.nil (by kernel_rfl) ?_
    exact xret [.lf (.im true (.int .i64 (-1)))] rfl (by kernel_rfl) (retI (szR_no (by unfold wRecs; omega)))
  · have h1 := of_dF h1
    refine xw_skip ?_
    refine xw_seq ?_
    refine vx c [(0, .lf (.im true (.sl 2 (a.map rRec)))), (2, .int (left - ((a.length : Nat) : Int))), (10, .int 0)] [] AllP.nil (by kernel_rfl) ?_
    refine xw_block ?_
    refine xw_loop (fun n L => ∃ (i : Nat) (cur : Int), L = [(0, .lf (.im true (.sl 2 (a.map rRec)))), (2, .int cur), (10, .int ((i : Nat) : Int))] ∧ n = a.length - i ∧ (i ≤ a.length ∧ 0 ≤ cur ∧ cur = left - ((a.length + sumTo wRec a i : Nat) : Int))) _ ⟨0, (left - ((a.length : Nat) : Int)), rfl, rfl, ⟨by omega, by omega, by rw [sumTo_zero]; omega⟩⟩ ?_
    rintro n L ⟨i, cur, rfl, rfl, hP1⟩
    refine xw_seq ?_
    refine vx c [(0, .lf (.im true (.sl 2 (a.map rRec)))), (2, .int cur), (10, .int ((i : Nat) : Int)), (30, .bool (decide ((((i : Nat) : Int) : Int) < ((a.length : Nat) : Int))))] [(2, .slot (.int ((a.length : Nat) : Int)))] (a2 (ln (l := a) (f := rRec)) AllP.nil) (by kernel_rfl) ?_
    refine xw_cond (decide ((((i : Nat) : Int) : Int) < ((a.length : Nat) : Int))) rfl (fun h2 => ?_) (fun h2 => ?_)
    · have h2 := of_dT h2
      refine xw_skip ?_
      refine xw_seq ?_
      refine xw_block ?_
      obtain ⟨x1, hx1⟩ := get_lt (l := a) (i := i) (by omega)
      refine vx c [(0, .lf (.im true (.sl 2 (a.map rRec)))), (2, .int (szR (wRec x1) cur)), (10, .int ((i : Nat) : Int))] [(2, .row (rRec x1)), (5, .ret (.int (szR (wRec x1) cur)))] (a2 (ix (f := rRec) (l := a) (i := i) hx1) (a2 (cl tx30 (laws_szRecord_v x1 (by exact mem_at hok hx1) cur (by omega) (by omega))) AllP.nil)) (by kernel_rfl) ?_
      refine vx c [(0, .lf (.im true (.sl 2 (a.map rRec)))), (2, .int (szR (wRec x1) cur)), (10, .int ((i : Nat) : Int)), (50, .bool (decide ((szR (wRec x1) cur : Int) < 0)))] [] AllP.nil (by kernel_rfl) ?_
      refine xw_cond (decide ((szR (wRec x1) cur : Int) < 0)) rfl (fun h3 => ?_) (fun h3 => ?_)
      · have h3 := of_dT h3
        refine vx c [(8, .int (-1))] [] AllP.nil (by kernel_rfl) ?_
        exact xret [.lf (.im true (.int .i64 (-1)))] rfl (by kernel_rfl) (retI (szR_no (by have := sumTo_le wRec a (i + 1); rw [sumTo_succ hx1] at this; have := szR_neg h3; unfold wRecs; omega)))
      · have h3 := of_dF h3
        refine xw_skip ?_
        exact vxe c [(0, .lf (.im true (.sl 2 (a.map rRec)))), (2, .int (szR (wRec x1) cur)), (10, .int ((i + 1 : Nat) : Int))] [(1, .slot (.int ((i + 1 : Nat) : Int)))] (a2 (wI (a := ((i : Nat) : Int) + 1) (b := ((i + 1 : Nat) : Int)) (by omega) (by omega) (by omega)) AllP.nil) (by kernel_rfl) (⟨_, by omega, (i + 1), (szR (wRec x1) cur), rfl, rfl, ⟨by omega, by omega, by rw [(szR_pos h3 hP1.2.1).2, sumTo_succ hx1]; omega⟩⟩)
    · have h2 := of_dF h2
      refine xw_exit ?_
      refine vx c [(8, .int cur)] [] AllP.nil (by kernel_rfl) ?_
      exact xret [.lf (.im true (.int .i64 cur))] rfl (by kernel_rfl) (retI (szR_yes hP1.2.1 (by have := hP1.2.2; rw [sumTo_all (by omega)] at this; unfold wRecs; exact this)))
set_option maxRecDepth 100000 in
theorem laws_szIns_v (a : Ins) (hok : a.ok) (left : Int) (l0 : 0 ≤ left) (l1 : left ≤ 1048576) :
    CallV Try.prog 62 [.agg [.im true (.str a.op), .im true (.int .i64 a.a), .im true (.int .i64 a.b)], .lf (.im true (.int .i64 left))] (· = .int (szR (wIns a) left)) := by
  refine CallX (fn := Try.f62) TTok mixed Try.func62 rfl rfl rfl rfl rfl fun E c => ?_
  have b1 : a.op.size ≤ 140737488355328 := hok
  refine vx c [(2, .int left), (4, .lf (.ptr 2 0)), (5, .cell 2 [.im true (.str a.op), .im true (.int .i64 a.a), .im true (.int .i64 a.b)])] [] AllP.nil (by kernel_rfl) ?_
  refine vx c [(2, .int (left - ((a.op.size : Nat) : Int)))] [(4, .slot (.int (left - ((a.op.size : Nat) : Int))))] (a2 (wI (a := left - ((a.op.size : Nat) : Int)) (b := left - ((a.op.size : Nat) : Int)) (by omega) (by omega) (by omega)) AllP.nil) (by kernel_rfl) ?_
  refine xw_seq ?_
  refine vx c [(2, .int (left - ((a.op.size : Nat) : Int))), (22, .bool (decide ((left - ((a.op.size : Nat) : Int) : Int) < 0)))] [] AllP.nil (by kernel_rfl) ?_
  refine xw_cond (decide ((left - ((a.op.size : Nat) : Int) : Int) < 0)) rfl (fun h1 => ?_) (fun h1 => ?_)
  · have h1 := of_dT h1
    refine vx c [(8, .int (-1))] [] AllP.nil (by kernel_rfl) ?_
    exact xret [.lf (.im true (.int .i64 (-1)))] rfl (by kernel_rfl) (retI (szR_no (by unfold wIns; omega)))
  · have h1 := of_dF h1
    refine xw_skip ?_
    refine vx c [(8, .int (left - ((a.op.size : Nat) : Int)))] [] AllP.nil (by kernel_rfl) ?_
    exact xret [.lf (.im true (.int .i64 (left - ((a.op.size : Nat) : Int))))] rfl (by kernel_rfl) (retI (szR_yes (by omega) (by unfold wIns; omega)))
set_option maxRecDepth 100000 in
theorem laws_szInsS_v (a : List Ins) (ha : a.length ≤ 140737488355328) (hok : ∀ x ∈ a, x.ok) (left : Int) (l0 : 0 ≤ left) (l1 : left ≤ 1048576) :
    CallV Try.prog 46 [.lf (.im true (.sl 3 (a.map rIns))), .lf (.im true (.int .i64 left))] (· = .int (szR (wInss a) left)) := by
  refine CallX (fn := Try.f46) TTok mixed Try.func46 rfl rfl rfl rfl rfl fun E c => ?_
  refine vx c [(0, .lf (.im true (.sl 3 (a.map rIns)))), (2, .int left)] [] AllP.nil (by kernel_rfl) ?_
  refine vx c [(0, .lf (.im true (.sl 3 (a.map rIns)))), (2, .int (left - ((a.length : Nat) : Int)))] [(2, .slot (.int ((a.length : Nat) : Int))), (3, .slot (.int (left - ((a.length : Nat) : Int))))] (a2 (ln (l := a) (f := rIns)) (a2 (wI (a := left - ((a.length : Nat) : Int)) (b := left - ((a.length : Nat) : Int)) (by omega) (by omega) (by omega)) AllP.nil)) (by kernel_rfl) ?_
  refine xw_seq ?_
  refine vx c [(0, .lf (.im true (.sl 3 (a.map rIns)))), (2, .int (left - ((a.length : Nat) : Int))), (22, .bool (decide ((left - ((a.length : Nat) : Int) : Int) < 0)))] [] AllP.nil (by kernel_rfl) ?_
  refine xw_cond (decide ((left - ((a.length : Nat) : Int) : Int) < 0)) rfl (fun h1 => ?_) (fun h1 => ?_)
  · have h1 := of_dT h1
    refine vx c [(8, .int (-1))] [] AllP.nil (by kernel_rfl) ?_
    exact xret [.lf (.im true (.int .i64 (-1)))] rfl (by kernel_rfl) (retI (szR_no (by unfold wInss; omega)))
  · have h1 := of_dF h1
    refine xw_skip ?_
    refine xw_seq ?_
    refine vx c [(0, .lf (.im true (.sl 3 (a.map rIns)))), (2, .int (left - ((a.length : Nat) : Int))), (10, .int 0)] [] AllP.nil (by kernel_rfl) ?_
    refine xw_block ?_
    refine xw_loop (fun n L => ∃ (i : Nat) (cur : Int), L = [(0, .lf (.im true (.sl 3 (a.map rIns)))), (2, .int cur), (10, .int ((i : Nat) : Int))] ∧ n = a.length - i ∧ (i ≤ a.length ∧ 0 ≤ cur ∧ cur = left - ((a.length + sumTo wIns a i : Nat) : Int))) _ ⟨0, (left - ((a.length : Nat) : Int)), rfl, rfl, ⟨by omega, by omega, by rw [sumTo_zero]; omega⟩⟩ ?_
    rintro n L ⟨i, cur, rfl, rfl, hP1⟩
    refine xw_seq ?_
    refine vx c [(0, .lf (.im true (.sl 3 (a.map rIns)))), (2, .int cur), (10, .int ((i : Nat) : Int)), (30, .bool (decide ((((i : Nat) : Int) : Int) < ((a.length : Nat) : Int))))] [(2, .slot (.int ((a.length : Nat) : Int)))] (a2 (ln (l := a) (f := rIns)) AllP.nil) (by kernel_rfl) ?_
    refine xw_cond (decide ((((i : Nat) : Int) : Int) < ((a.length : Nat) : Int))) rfl (fun h2 => ?_) (fun h2 => ?_)
    · have h2 := of_dT h2
      refine xw_skip ?_
      refine xw_seq ?_
      refine xw_block ?_
      obtain ⟨x1, hx1⟩ := get_lt (l := a) (i := i) (by omega)
      refine vx c [(0, .lf (.im true (.sl 3 (a.map rIns)))), (2, .int (szR (wIns x1) cur)), (10, .int ((i : Nat) : Int))] [(2, .row (rIns x1)), (5, .ret (.int (szR (wIns x1) cur)))] (a2 (ix (f := rIns) (l := a) (i := i) hx1) (a2 (cl tx62 (laws_szIns_v x1 (mem_at hok hx1) cur (by omega) (by omega))) AllP.nil)) (by kernel_rfl) ?_
      refine vx c [(0, .lf (.im true (.sl 3 (a.map rIns)))), (2, .int (szR (wIns x1) cur)), (10, .int ((i : Nat) : Int)), (50, .bool (decide ((szR (wIns x1) cur : Int) < 0)))] [] AllP.nil (by kernel_rfl) ?_
      refine xw_cond (decide ((szR (wIns x1) cur : Int) < 0)) rfl (fun h3 => ?_) (fun h3 => ?_)
      · have h3 := of_dT h3
        refine vx c [(8, .int (-1))] [] AllP.nil (by kernel_rfl) ?_
        exact xret [.lf (.im true (.int .i64 (-1)))] rfl (by kernel_rfl) (retI (szR_no (by have := sumTo_le wIns a (i + 1); rw [sumTo_succ hx1] at this; have := szR_neg h3; unfold wInss; omega)))
      · have h3 := of_dF h3
        refine xw_skip ?_
        exact vxe c [(0, .lf (.im true (.sl 3 (a.map rIns)))), (2, .int (szR (wIns x1) cur)), (10, .int ((i + 1 : Nat) : Int))] [(1, .slot (.int ((i + 1 : Nat) : Int)))] (a2 (wI (a := ((i : Nat) : Int) + 1) (b := ((i + 1 : Nat) : Int)) (by omega) (by omega) (by omega)) AllP.nil) (by kernel_rfl) (⟨_, by omega, (i + 1), (szR (wIns x1) cur), rfl, rfl, ⟨by omega, by omega, by rw [(szR_pos h3 hP1.2.1).2, sumTo_succ hx1]; omega⟩⟩)
    · have h2 := of_dF h2
      refine xw_exit ?_
      refine vx c [(8, .int cur)] [] AllP.nil (by kernel_rfl) ?_
      exact xret [.lf (.im true (.int .i64 cur))] rfl (by kernel_rfl) (retI (szR_yes hP1.2.1 (by have := hP1.2.2; rw [sumTo_all (by omega)] at this; unfold wInss; exact this)))
set_option maxRecDepth 100000 in
theorem laws_szFunc_v (a : Fn) (hok : a.ok) (left : Int) (l0 : 0 ≤ left) (l1 : left ≤ 1048576) :
    CallV Try.prog 31 [.agg [.im true (.int .i64 a.seen), .im true (.sl 1 (a.args.map rS)), .im true (.sl 1 (a.rets.map rS)), .im true (.sl 1 (a.locals.map rS)), .im true (.sl 1 (a.takes.map rI)), .im true (.sl 3 (a.code.map rIns))], .lf (.im true (.int .i64 left))] (· = .int (szR (wFn a) left)) := by
  refine CallX (fn := Try.f31) TTok mixed Try.func31 rfl rfl rfl rfl rfl fun E c => ?_
  have b1 := hok.1
  have b2 := hok.2.1
  have b3 := hok.2.2.1
  have b4 := hok.2.2.2.1
  have b5 := hok.2.2.2.2.1
  have b6 := hok.2.2.2.2.2
  refine vx c [(2, .int left), (4, .lf (.ptr 2 0)), (5, .cell 2 [.im true (.int .i64 a.seen), .im true (.sl 1 (a.args.map rS)), .im true (.sl 1 (a.rets.map rS)), .im true (.sl 1 (a.locals.map rS)), .im true (.sl 1 (a.takes.map rI)), .im true (.sl 3 (a.code.map rIns))])] [] AllP.nil (by kernel_rfl) ?_
  refine vx c [(2, .int (szR (wS a.args) left)), (4, .lf (.ptr 2 0)), (5, .cell 2 [.im true (.int .i64 a.seen), .im true (.sl 1 (a.args.map rS)), .im true (.sl 1 (a.rets.map rS)), .im true (.sl 1 (a.locals.map rS)), .im true (.sl 1 (a.takes.map rI)), .im true (.sl 3 (a.code.map rIns))])] [(3, .ret (.int (szR (wS a.args) left)))] (a2 (cl tx45 (laws_szStringS_v a.args (by assumption) left (by omega) (by omega))) AllP.nil) (by kernel_rfl) ?_
  refine xw_seq ?_
  refine vx c [(2, .int (szR (wS a.args) left)), (4, .lf (.ptr 2 0)), (5, .cell 2 [.im true (.int .i64 a.seen), .im true (.sl 1 (a.args.map rS)), .im true (.sl 1 (a.rets.map rS)), .im true (.sl 1 (a.locals.map rS)), .im true (.sl 1 (a.takes.map rI)), .im true (.sl 3 (a.code.map rIns))]), (20, .bool (decide ((szR (wS a.args) left : Int) < 0)))] [] AllP.nil (by kernel_rfl) ?_
  refine xw_cond (decide ((szR (wS a.args) left : Int) < 0)) rfl (fun h1 => ?_) (fun h1 => ?_)
  · have h1 := of_dT h1
    refine vx c [(8, .int (-1))] [] AllP.nil (by kernel_rfl) ?_
    exact xret [.lf (.im true (.int .i64 (-1)))] rfl (by kernel_rfl) (retI (szR_no (by have := szR_neg h1; unfold wFn; omega)))
  · have h1 := of_dF h1
    have e1 := szR_pos h1 (by omega)
    refine xw_skip ?_
    refine vx c [(2, .int (szR (wS a.rets) (szR (wS a.args) left))), (4, .lf (.ptr 2 0)), (5, .cell 2 [.im true (.int .i64 a.seen), .im true (.sl 1 (a.args.map rS)), .im true (.sl 1 (a.rets.map rS)), .im true (.sl 1 (a.locals.map rS)), .im true (.sl 1 (a.takes.map rI)), .im true (.sl 3 (a.code.map rIns))])] [(3, .ret (.int (szR (wS a.rets) (szR (wS a.args) left))))] (a2 (cl tx45 (laws_szStringS_v a.rets (by assumption) (szR (wS a.args) left) (by omega) (by omega))) AllP.nil) (by kernel_rfl) ?_
    refine xw_seq ?_
    refine vx c [(2, .int (szR (wS a.rets) (szR (wS a.args) left))), (4, .lf (.ptr 2 0)), (5, .cell 2 [.im true (.int .i64 a.seen), .im true (.sl 1 (a.args.map rS)), .im true (.sl 1 (a.rets.map rS)), .im true (.sl 1 (a.locals.map rS)), .im true (.sl 1 (a.takes.map rI)), .im true (.sl 3 (a.code.map rIns))]), (32, .bool (decide ((szR (wS a.rets) (szR (wS a.args) left) : Int) < 0)))] [] AllP.nil (by kernel_rfl) ?_
    refine xw_cond (decide ((szR (wS a.rets) (szR (wS a.args) left) : Int) < 0)) rfl (fun h2 => ?_) (fun h2 => ?_)
    · have h2 := of_dT h2
      refine vx c [(8, .int (-1))] [] AllP.nil (by kernel_rfl) ?_
      exact xret [.lf (.im true (.int .i64 (-1)))] rfl (by kernel_rfl) (retI (szR_no (by have := szR_neg h2; unfold wFn; omega)))
    · have h2 := of_dF h2
      have e2 := szR_pos h2 (by omega)
      refine xw_skip ?_
      refine vx c [(2, .int (szR (wS a.locals) (szR (wS a.rets) (szR (wS a.args) left)))), (4, .lf (.ptr 2 0)), (5, .cell 2 [.im true (.int .i64 a.seen), .im true (.sl 1 (a.args.map rS)), .im true (.sl 1 (a.rets.map rS)), .im true (.sl 1 (a.locals.map rS)), .im true (.sl 1 (a.takes.map rI)), .im true (.sl 3 (a.code.map rIns))])] [(3, .ret (.int (szR (wS a.locals) (szR (wS a.rets) (szR (wS a.args) left)))))] (a2 (cl tx45 (laws_szStringS_v a.locals (by assumption) (szR (wS a.rets) (szR (wS a.args) left)) (by omega) (by omega))) AllP.nil) (by kernel_rfl) ?_
      refine xw_seq ?_
      refine vx c [(2, .int (szR (wS a.locals) (szR (wS a.rets) (szR (wS a.args) left)))), (4, .lf (.ptr 2 0)), (5, .cell 2 [.im true (.int .i64 a.seen), .im true (.sl 1 (a.args.map rS)), .im true (.sl 1 (a.rets.map rS)), .im true (.sl 1 (a.locals.map rS)), .im true (.sl 1 (a.takes.map rI)), .im true (.sl 3 (a.code.map rIns))]), (44, .bool (decide ((szR (wS a.locals) (szR (wS a.rets) (szR (wS a.args) left)) : Int) < 0)))] [] AllP.nil (by kernel_rfl) ?_
      refine xw_cond (decide ((szR (wS a.locals) (szR (wS a.rets) (szR (wS a.args) left)) : Int) < 0)) rfl (fun h3 => ?_) (fun h3 => ?_)
      · have h3 := of_dT h3
        refine vx c [(8, .int (-1))] [] AllP.nil (by kernel_rfl) ?_
        exact xret [.lf (.im true (.int .i64 (-1)))] rfl (by kernel_rfl) (retI (szR_no (by have := szR_neg h3; unfold wFn; omega)))
      · have h3 := of_dF h3
        have e3 := szR_pos h3 (by omega)
        refine xw_skip ?_
        refine vx c [(2, .int (szR a.takes.length (szR (wS a.locals) (szR (wS a.rets) (szR (wS a.args) left))))), (4, .lf (.ptr 2 0)), (5, .cell 2 [.im true (.int .i64 a.seen), .im true (.sl 1 (a.args.map rS)), .im true (.sl 1 (a.rets.map rS)), .im true (.sl 1 (a.locals.map rS)), .im true (.sl 1 (a.takes.map rI)), .im true (.sl 3 (a.code.map rIns))])] [(3, .ret (.int (szR a.takes.length (szR (wS a.locals) (szR (wS a.rets) (szR (wS a.args) left))))))] (a2 (cl tx14 (laws_szIntS_v a.takes (by assumption) (szR (wS a.locals) (szR (wS a.rets) (szR (wS a.args) left))) (by omega) (by omega))) AllP.nil) (by kernel_rfl) ?_
        refine xw_seq ?_
        refine vx c [(2, .int (szR a.takes.length (szR (wS a.locals) (szR (wS a.rets) (szR (wS a.args) left))))), (4, .lf (.ptr 2 0)), (5, .cell 2 [.im true (.int .i64 a.seen), .im true (.sl 1 (a.args.map rS)), .im true (.sl 1 (a.rets.map rS)), .im true (.sl 1 (a.locals.map rS)), .im true (.sl 1 (a.takes.map rI)), .im true (.sl 3 (a.code.map rIns))]), (56, .bool (decide ((szR a.takes.length (szR (wS a.locals) (szR (wS a.rets) (szR (wS a.args) left))) : Int) < 0)))] [] AllP.nil (by kernel_rfl) ?_
        refine xw_cond (decide ((szR a.takes.length (szR (wS a.locals) (szR (wS a.rets) (szR (wS a.args) left))) : Int) < 0)) rfl (fun h4 => ?_) (fun h4 => ?_)
        · have h4 := of_dT h4
          refine vx c [(8, .int (-1))] [] AllP.nil (by kernel_rfl) ?_
          exact xret [.lf (.im true (.int .i64 (-1)))] rfl (by kernel_rfl) (retI (szR_no (by have := szR_neg h4; unfold wFn; omega)))
        · have h4 := of_dF h4
          have e4 := szR_pos h4 (by omega)
          refine xw_skip ?_
          refine vx c [(2, .int (szR (wInss a.code) (szR a.takes.length (szR (wS a.locals) (szR (wS a.rets) (szR (wS a.args) left))))))] [(3, .ret (.int (szR (wInss a.code) (szR a.takes.length (szR (wS a.locals) (szR (wS a.rets) (szR (wS a.args) left)))))))] (a2 (cl tx46 (laws_szInsS_v a.code (by assumption) (by assumption) (szR a.takes.length (szR (wS a.locals) (szR (wS a.rets) (szR (wS a.args) left)))) (by omega) (by omega))) AllP.nil) (by kernel_rfl) ?_
          refine xw_seq ?_
          refine vx c [(2, .int (szR (wInss a.code) (szR a.takes.length (szR (wS a.locals) (szR (wS a.rets) (szR (wS a.args) left)))))), (68, .bool (decide ((szR (wInss a.code) (szR a.takes.length (szR (wS a.locals) (szR (wS a.rets) (szR (wS a.args) left)))) : Int) < 0)))] [] AllP.nil (by kernel_rfl) ?_
          refine xw_cond (decide ((szR (wInss a.code) (szR a.takes.length (szR (wS a.locals) (szR (wS a.rets) (szR (wS a.args) left)))) : Int) < 0)) rfl (fun h5 => ?_) (fun h5 => ?_)
          · have h5 := of_dT h5
            refine vx c [(8, .int (-1))] [] AllP.nil (by kernel_rfl) ?_
            exact xret [.lf (.im true (.int .i64 (-1)))] rfl (by kernel_rfl) (retI (szR_no (by have := szR_neg h5; unfold wFn; omega)))
          · have h5 := of_dF h5
            have e5 := szR_pos h5 (by omega)
            refine xw_skip ?_
            refine vx c [(8, .int (szR (wInss a.code) (szR a.takes.length (szR (wS a.locals) (szR (wS a.rets) (szR (wS a.args) left))))))] [] AllP.nil (by kernel_rfl) ?_
            exact xret [.lf (.im true (.int .i64 (szR (wInss a.code) (szR a.takes.length (szR (wS a.locals) (szR (wS a.rets) (szR (wS a.args) left)))))))] rfl (by kernel_rfl) (retI (szR_yes (by omega) (by unfold wFn; omega)))
set_option maxRecDepth 100000 in
theorem laws_szFuncS_v (a : List Fn) (ha : a.length ≤ 140737488355328) (hok : ∀ x ∈ a, x.ok) (left : Int) (l0 : 0 ≤ left) (l1 : left ≤ 1048576) :
    CallV Try.prog 13 [.lf (.im true (.sl 6 (a.map rFn))), .lf (.im true (.int .i64 left))] (· = .int (szR (wFns a) left)) := by
  refine CallX (fn := Try.f13) TTok mixed Try.func13 rfl rfl rfl rfl rfl fun E c => ?_
  refine vx c [(0, .lf (.im true (.sl 6 (a.map rFn)))), (2, .int left)] [] AllP.nil (by kernel_rfl) ?_
  refine vx c [(0, .lf (.im true (.sl 6 (a.map rFn)))), (2, .int (left - ((a.length : Nat) : Int)))] [(2, .slot (.int ((a.length : Nat) : Int))), (3, .slot (.int (left - ((a.length : Nat) : Int))))] (a2 (ln (l := a) (f := rFn)) (a2 (wI (a := left - ((a.length : Nat) : Int)) (b := left - ((a.length : Nat) : Int)) (by omega) (by omega) (by omega)) AllP.nil)) (by kernel_rfl) ?_
  refine xw_seq ?_
  refine vx c [(0, .lf (.im true (.sl 6 (a.map rFn)))), (2, .int (left - ((a.length : Nat) : Int))), (22, .bool (decide ((left - ((a.length : Nat) : Int) : Int) < 0)))] [] AllP.nil (by kernel_rfl) ?_
  refine xw_cond (decide ((left - ((a.length : Nat) : Int) : Int) < 0)) rfl (fun h1 => ?_) (fun h1 => ?_)
  · have h1 := of_dT h1
    refine vx c [(8, .int (-1))] [] AllP.nil (by kernel_rfl) ?_
    exact xret [.lf (.im true (.int .i64 (-1)))] rfl (by kernel_rfl) (retI (szR_no (by unfold wFns; omega)))
  · have h1 := of_dF h1
    refine xw_skip ?_
    refine xw_seq ?_
    refine vx c [(0, .lf (.im true (.sl 6 (a.map rFn)))), (2, .int (left - ((a.length : Nat) : Int))), (10, .int 0)] [] AllP.nil (by kernel_rfl) ?_
    refine xw_block ?_
    refine xw_loop (fun n L => ∃ (i : Nat) (cur : Int), L = [(0, .lf (.im true (.sl 6 (a.map rFn)))), (2, .int cur), (10, .int ((i : Nat) : Int))] ∧ n = a.length - i ∧ (i ≤ a.length ∧ 0 ≤ cur ∧ cur = left - ((a.length + sumTo wFn a i : Nat) : Int))) _ ⟨0, (left - ((a.length : Nat) : Int)), rfl, rfl, ⟨by omega, by omega, by rw [sumTo_zero]; omega⟩⟩ ?_
    rintro n L ⟨i, cur, rfl, rfl, hP1⟩
    refine xw_seq ?_
    refine vx c [(0, .lf (.im true (.sl 6 (a.map rFn)))), (2, .int cur), (10, .int ((i : Nat) : Int)), (30, .bool (decide ((((i : Nat) : Int) : Int) < ((a.length : Nat) : Int))))] [(2, .slot (.int ((a.length : Nat) : Int)))] (a2 (ln (l := a) (f := rFn)) AllP.nil) (by kernel_rfl) ?_
    refine xw_cond (decide ((((i : Nat) : Int) : Int) < ((a.length : Nat) : Int))) rfl (fun h2 => ?_) (fun h2 => ?_)
    · have h2 := of_dT h2
      refine xw_skip ?_
      refine xw_seq ?_
      refine xw_block ?_
      obtain ⟨x1, hx1⟩ := get_lt (l := a) (i := i) (by omega)
      refine vx c [(0, .lf (.im true (.sl 6 (a.map rFn)))), (2, .int (szR (wFn x1) cur)), (10, .int ((i : Nat) : Int))] [(2, .row (rFn x1)), (5, .ret (.int (szR (wFn x1) cur)))] (a2 (ix (f := rFn) (l := a) (i := i) hx1) (a2 (cl tx31 (laws_szFunc_v x1 (by exact mem_at hok hx1) cur (by omega) (by omega))) AllP.nil)) (by kernel_rfl) ?_
      refine vx c [(0, .lf (.im true (.sl 6 (a.map rFn)))), (2, .int (szR (wFn x1) cur)), (10, .int ((i : Nat) : Int)), (50, .bool (decide ((szR (wFn x1) cur : Int) < 0)))] [] AllP.nil (by kernel_rfl) ?_
      refine xw_cond (decide ((szR (wFn x1) cur : Int) < 0)) rfl (fun h3 => ?_) (fun h3 => ?_)
      · have h3 := of_dT h3
        refine vx c [(8, .int (-1))] [] AllP.nil (by kernel_rfl) ?_
        exact xret [.lf (.im true (.int .i64 (-1)))] rfl (by kernel_rfl) (retI (szR_no (by have := sumTo_le wFn a (i + 1); rw [sumTo_succ hx1] at this; have := szR_neg h3; unfold wFns; omega)))
      · have h3 := of_dF h3
        refine xw_skip ?_
        exact vxe c [(0, .lf (.im true (.sl 6 (a.map rFn)))), (2, .int (szR (wFn x1) cur)), (10, .int ((i + 1 : Nat) : Int))] [(1, .slot (.int ((i + 1 : Nat) : Int)))] (a2 (wI (a := ((i : Nat) : Int) + 1) (b := ((i + 1 : Nat) : Int)) (by omega) (by omega) (by omega)) AllP.nil) (by kernel_rfl) (⟨_, by omega, (i + 1), (szR (wFn x1) cur), rfl, rfl, ⟨by omega, by omega, by rw [(szR_pos h3 hP1.2.1).2, sumTo_succ hx1]; omega⟩⟩)
    · have h2 := of_dF h2
      refine xw_exit ?_
      refine vx c [(8, .int cur)] [] AllP.nil (by kernel_rfl) ?_
      exact xret [.lf (.im true (.int .i64 cur))] rfl (by kernel_rfl) (retI (szR_yes hP1.2.1 (by have := hP1.2.2; rw [sumTo_all (by omega)] at this; unfold wFns; exact this)))
set_option maxRecDepth 100000 in
theorem laws_szModule_v (a : Mod) (hok : a.ok) (left : Int) (l0 : 0 ≤ left) (l1 : left ≤ 1048576) :
    CallV Try.prog 5 [.agg [.im true (.sl 2 (a.records.map rRec)), .im true (.sl 6 (a.funcs.map rFn)), .im true (.sl 1 (a.friends.map rI))], .lf (.im true (.int .i64 left))] (· = .int (szR (wMod a) left)) := by
  refine CallX (fn := Try.f5) TTok mixed Try.func5 rfl rfl rfl rfl rfl fun E c => ?_
  have b1 := hok.1.1
  have b2 := hok.1.2
  have b3 := hok.2.1.1
  have b4 := hok.2.1.2
  have b5 := hok.2.2
  refine vx c [(2, .int left), (4, .lf (.ptr 2 0)), (5, .cell 2 [.im true (.sl 2 (a.records.map rRec)), .im true (.sl 6 (a.funcs.map rFn)), .im true (.sl 1 (a.friends.map rI))])] [] AllP.nil (by kernel_rfl) ?_
  refine vx c [(2, .int (szR (wRecs a.records) left)), (4, .lf (.ptr 2 0)), (5, .cell 2 [.im true (.sl 2 (a.records.map rRec)), .im true (.sl 6 (a.funcs.map rFn)), .im true (.sl 1 (a.friends.map rI))])] [(3, .ret (.int (szR (wRecs a.records) left)))] (a2 (cl tx12 (laws_szRecordS_v a.records (by assumption) (by assumption) left (by omega) (by omega))) AllP.nil) (by kernel_rfl) ?_
  refine xw_seq ?_
  refine vx c [(2, .int (szR (wRecs a.records) left)), (4, .lf (.ptr 2 0)), (5, .cell 2 [.im true (.sl 2 (a.records.map rRec)), .im true (.sl 6 (a.funcs.map rFn)), .im true (.sl 1 (a.friends.map rI))]), (20, .bool (decide ((szR (wRecs a.records) left : Int) < 0)))] [] AllP.nil (by kernel_rfl) ?_
  refine xw_cond (decide ((szR (wRecs a.records) left : Int) < 0)) rfl (fun h1 => ?_) (fun h1 => ?_)
  · have h1 := of_dT h1
    refine vx c [(8, .int (-1))] [] AllP.nil (by kernel_rfl) ?_
    exact xret [.lf (.im true (.int .i64 (-1)))] rfl (by kernel_rfl) (retI (szR_no (by have := szR_neg h1; unfold wMod; omega)))
  · have h1 := of_dF h1
    have e1 := szR_pos h1 (by omega)
    refine xw_skip ?_
    refine vx c [(2, .int (szR (wFns a.funcs) (szR (wRecs a.records) left))), (4, .lf (.ptr 2 0)), (5, .cell 2 [.im true (.sl 2 (a.records.map rRec)), .im true (.sl 6 (a.funcs.map rFn)), .im true (.sl 1 (a.friends.map rI))])] [(3, .ret (.int (szR (wFns a.funcs) (szR (wRecs a.records) left))))] (a2 (cl tx13 (laws_szFuncS_v a.funcs (by assumption) (by assumption) (szR (wRecs a.records) left) (by omega) (by omega))) AllP.nil) (by kernel_rfl) ?_
    refine xw_seq ?_
    refine vx c [(2, .int (szR (wFns a.funcs) (szR (wRecs a.records) left))), (4, .lf (.ptr 2 0)), (5, .cell 2 [.im true (.sl 2 (a.records.map rRec)), .im true (.sl 6 (a.funcs.map rFn)), .im true (.sl 1 (a.friends.map rI))]), (32, .bool (decide ((szR (wFns a.funcs) (szR (wRecs a.records) left) : Int) < 0)))] [] AllP.nil (by kernel_rfl) ?_
    refine xw_cond (decide ((szR (wFns a.funcs) (szR (wRecs a.records) left) : Int) < 0)) rfl (fun h2 => ?_) (fun h2 => ?_)
    · have h2 := of_dT h2
      refine vx c [(8, .int (-1))] [] AllP.nil (by kernel_rfl) ?_
      exact xret [.lf (.im true (.int .i64 (-1)))] rfl (by kernel_rfl) (retI (szR_no (by have := szR_neg h2; unfold wMod; omega)))
    · have h2 := of_dF h2
      have e2 := szR_pos h2 (by omega)
      refine xw_skip ?_
      refine vx c [(2, .int (szR a.friends.length (szR (wFns a.funcs) (szR (wRecs a.records) left))))] [(3, .ret (.int (szR a.friends.length (szR (wFns a.funcs) (szR (wRecs a.records) left)))))] (a2 (cl tx14 (laws_szIntS_v a.friends (by assumption) (szR (wFns a.funcs) (szR (wRecs a.records) left)) (by omega) (by omega))) AllP.nil) (by kernel_rfl) ?_
      refine xw_seq ?_
      refine vx c [(2, .int (szR a.friends.length (szR (wFns a.funcs) (szR (wRecs a.records) left)))), (44, .bool (decide ((szR a.friends.length (szR (wFns a.funcs) (szR (wRecs a.records) left)) : Int) < 0)))] [] AllP.nil (by kernel_rfl) ?_
      refine xw_cond (decide ((szR a.friends.length (szR (wFns a.funcs) (szR (wRecs a.records) left)) : Int) < 0)) rfl (fun h3 => ?_) (fun h3 => ?_)
      · have h3 := of_dT h3
        refine vx c [(8, .int (-1))] [] AllP.nil (by kernel_rfl) ?_
        exact xret [.lf (.im true (.int .i64 (-1)))] rfl (by kernel_rfl) (retI (szR_no (by have := szR_neg h3; unfold wMod; omega)))
      · have h3 := of_dF h3
        have e3 := szR_pos h3 (by omega)
        refine xw_skip ?_
        refine vx c [(8, .int (szR a.friends.length (szR (wFns a.funcs) (szR (wRecs a.records) left))))] [] AllP.nil (by kernel_rfl) ?_
        exact xret [.lf (.im true (.int .i64 (szR a.friends.length (szR (wFns a.funcs) (szR (wRecs a.records) left)))))] rfl (by kernel_rfl) (retI (szR_yes (by omega) (by unfold wMod; omega)))
set_option maxRecDepth 100000 in
theorem laws_toStringS_v (a : List ByteArray) (ha : a.length ≤ 1048576) :
    CallV Try.prog 47 [.lf (.im true (.sl 1 (a.map rS)))] (· = .lf (.im true (.sl 1 (a.map rS)))) := by
  refine CallX (fn := Try.f47) TTok mixed Try.func47 rfl rfl rfl rfl rfl fun E c => ?_
  refine vx c [(0, .lf (.im true (.sl 1 (a.map rS))))] [] AllP.nil (by kernel_rfl) ?_
  refine vx c [(0, .lf (.im true (.sl 1 (a.map rS)))), (6, .lf (.u 7 0 9 1 (fillTo rS a [.str ⟨#[]⟩] 0)))] [(1, .slot (.int ((a.length : Nat) : Int))), (2, .slot (.lf (.u 7 0 9 1 (fillTo rS a [.str ⟨#[]⟩] 0))))] (a2 (ln (l := a) (f := rS)) (a2 (a1 (show (List.replicate a.length [.str ⟨#[]⟩] : List (List SV)) = fillTo rS a [.str ⟨#[]⟩] 0 by exact fillTo_zero rS a [.str ⟨#[]⟩])) (a2 (mk (n := a.length) (b := 16) (by omega) (by unfold maxLen; omega)) AllP.nil))) (by kernel_rfl) ?_
  refine xw_seq ?_
  refine vx c [(0, .lf (.im true (.sl 1 (a.map rS)))), (6, .lf (.u 7 0 9 1 (fillTo rS a [.str ⟨#[]⟩] 0))), (8, .int 0)] [] AllP.nil (by kernel_rfl) ?_
  refine xw_block ?_
  refine xw_loop (fun n L => ∃ (i : Nat), L = [(0, .lf (.im true (.sl 1 (a.map rS)))), (6, .lf (.u 7 0 9 1 (fillTo rS a [.str ⟨#[]⟩] i))), (8, .int ((i : Nat) : Int))] ∧ n = a.length - i ∧ (i ≤ a.length)) _ ⟨0, rfl, rfl, by omega⟩ ?_
  rintro n L ⟨i, rfl, rfl, hP1⟩
  refine xw_seq ?_
  refine vx c [(0, .lf (.im true (.sl 1 (a.map rS)))), (6, .lf (.u 7 0 9 1 (fillTo rS a [.str ⟨#[]⟩] i))), (8, .int ((i : Nat) : Int)), (22, .bool (decide ((((i : Nat) : Int) : Int) < ((a.length : Nat) : Int))))] [(2, .slot (.int ((a.length : Nat) : Int)))] (a2 (ln (l := a) (f := rS)) AllP.nil) (by kernel_rfl) ?_
  refine xw_cond (decide ((((i : Nat) : Int) : Int) < ((a.length : Nat) : Int))) rfl (fun h1 => ?_) (fun h1 => ?_)
  · have h1 := of_dT h1
    refine xw_skip ?_
    refine xw_seq ?_
    refine xw_block ?_
    obtain ⟨x1, hx1⟩ := get_lt (l := a) (i := i) (by omega)
    refine vxe c [(0, .lf (.im true (.sl 1 (a.map rS)))), (6, .lf (.u 7 0 9 1 (fillTo rS a [.str ⟨#[]⟩] (i + 1)))), (8, .int ((i : Nat) : Int))] [(4, .row (rS x1)), (7, .elem i 0 [.str ⟨#[]⟩] (some (fillTo rS a [.str ⟨#[]⟩] (i + 1))))] (a2 (ix (f := rS) (l := a) (i := i) hx1) (a2 (ixu (i := i) (n := (fillTo rS a [.str ⟨#[]⟩] i).length) (by rw [fillTo_len (by omega)]; omega)) (a2 (fillU (f := rS) (l := a) (zs := [.str ⟨#[]⟩]) (i := i) (sz := 1) hx1 rfl rfl) AllP.nil))) (by kernel_rfl) ?_
    exact vxe c [(0, .lf (.im true (.sl 1 (a.map rS)))), (6, .lf (.u 7 0 9 1 (fillTo rS a [.str ⟨#[]⟩] (i + 1)))), (8, .int ((i + 1 : Nat) : Int))] [(1, .slot (.int ((i + 1 : Nat) : Int)))] (a2 (wI (a := ((i : Nat) : Int) + 1) (b := ((i + 1 : Nat) : Int)) (by omega) (by omega) (by omega)) AllP.nil) (by kernel_rfl) (⟨_, by omega, (i + 1), rfl, rfl, by omega⟩)
  · have h1 := of_dF h1
    refine xw_exit ?_
    refine xw_fr 3 [(0, .lf (.im true (.sl 1 (a.map rS)))), (6, .lf (.im true (.sl 1 (fillTo rS a [.str ⟨#[]⟩] i)))), (8, .int ((i : Nat) : Int)), (22, .bool (decide ((((i : Nat) : Int) : Int) < ((a.length : Nat) : Int))))] (by kernel_rfl) ?_
    refine vx c [(4, .lf (.im true (.sl 1 (fillTo rS a [.str ⟨#[]⟩] i))))] [] AllP.nil (by kernel_rfl) ?_
    exact xret [.lf (.im true (.sl 1 (fillTo rS a [.str ⟨#[]⟩] i)))] rfl (by kernel_rfl) (retL (by rw [show i = a.length by omega]; exact fillTo_all rS a [.str ⟨#[]⟩]))
set_option maxRecDepth 100000 in
theorem laws_toIntS_v (a : List Int) (ha : a.length ≤ 1048576) :
    CallV Try.prog 20 [.lf (.im true (.sl 1 (a.map rI)))] (· = .lf (.im true (.sl 1 (a.map rI)))) := by
  refine CallX (fn := Try.f20) TTok mixed Try.func20 rfl rfl rfl rfl rfl fun E c => ?_
  refine vx c [(0, .lf (.im true (.sl 1 (a.map rI))))] [] AllP.nil (by kernel_rfl) ?_
  refine vx c [(0, .lf (.im true (.sl 1 (a.map rI)))), (6, .lf (.u 7 0 3 1 (fillTo rI a [.int .i64 0] 0)))] [(1, .slot (.int ((a.length : Nat) : Int))), (2, .slot (.lf (.u 7 0 3 1 (fillTo rI a [.int .i64 0] 0))))] (a2 (ln (l := a) (f := rI)) (a2 (a1 (show (List.replicate a.length [.int .i64 0] : List (List SV)) = fillTo rI a [.int .i64 0] 0 by exact fillTo_zero rI a [.int .i64 0])) (a2 (mk (n := a.length) (b := 8) (by omega) (by unfold maxLen; omega)) AllP.nil))) (by kernel_rfl) ?_
  refine xw_seq ?_
  refine vx c [(0, .lf (.im true (.sl 1 (a.map rI)))), (6, .lf (.u 7 0 3 1 (fillTo rI a [.int .i64 0] 0))), (8, .int 0)] [] AllP.nil (by kernel_rfl) ?_
  refine xw_block ?_
  refine xw_loop (fun n L => ∃ (i : Nat), L = [(0, .lf (.im true (.sl 1 (a.map rI)))), (6, .lf (.u 7 0 3 1 (fillTo rI a [.int .i64 0] i))), (8, .int ((i : Nat) : Int))] ∧ n = a.length - i ∧ (i ≤ a.length)) _ ⟨0, rfl, rfl, by omega⟩ ?_
  rintro n L ⟨i, rfl, rfl, hP1⟩
  refine xw_seq ?_
  refine vx c [(0, .lf (.im true (.sl 1 (a.map rI)))), (6, .lf (.u 7 0 3 1 (fillTo rI a [.int .i64 0] i))), (8, .int ((i : Nat) : Int)), (22, .bool (decide ((((i : Nat) : Int) : Int) < ((a.length : Nat) : Int))))] [(2, .slot (.int ((a.length : Nat) : Int)))] (a2 (ln (l := a) (f := rI)) AllP.nil) (by kernel_rfl) ?_
  refine xw_cond (decide ((((i : Nat) : Int) : Int) < ((a.length : Nat) : Int))) rfl (fun h1 => ?_) (fun h1 => ?_)
  · have h1 := of_dT h1
    refine xw_skip ?_
    refine xw_seq ?_
    refine xw_block ?_
    obtain ⟨x1, hx1⟩ := get_lt (l := a) (i := i) (by omega)
    refine vxe c [(0, .lf (.im true (.sl 1 (a.map rI)))), (6, .lf (.u 7 0 3 1 (fillTo rI a [.int .i64 0] (i + 1)))), (8, .int ((i : Nat) : Int))] [(4, .row (rI x1)), (7, .elem i 0 [.int .i64 0] (some (fillTo rI a [.int .i64 0] (i + 1))))] (a2 (ix (f := rI) (l := a) (i := i) hx1) (a2 (ixu (i := i) (n := (fillTo rI a [.int .i64 0] i).length) (by rw [fillTo_len (by omega)]; omega)) (a2 (fillU (f := rI) (l := a) (zs := [.int .i64 0]) (i := i) (sz := 1) hx1 rfl rfl) AllP.nil))) (by kernel_rfl) ?_
    exact vxe c [(0, .lf (.im true (.sl 1 (a.map rI)))), (6, .lf (.u 7 0 3 1 (fillTo rI a [.int .i64 0] (i + 1)))), (8, .int ((i + 1 : Nat) : Int))] [(1, .slot (.int ((i + 1 : Nat) : Int)))] (a2 (wI (a := ((i : Nat) : Int) + 1) (b := ((i + 1 : Nat) : Int)) (by omega) (by omega) (by omega)) AllP.nil) (by kernel_rfl) (⟨_, by omega, (i + 1), rfl, rfl, by omega⟩)
  · have h1 := of_dF h1
    refine xw_exit ?_
    refine xw_fr 3 [(0, .lf (.im true (.sl 1 (a.map rI)))), (6, .lf (.im true (.sl 1 (fillTo rI a [.int .i64 0] i)))), (8, .int ((i : Nat) : Int)), (22, .bool (decide ((((i : Nat) : Int) : Int) < ((a.length : Nat) : Int))))] (by kernel_rfl) ?_
    refine vx c [(4, .lf (.im true (.sl 1 (fillTo rI a [.int .i64 0] i))))] [] AllP.nil (by kernel_rfl) ?_
    exact xret [.lf (.im true (.sl 1 (fillTo rI a [.int .i64 0] i)))] rfl (by kernel_rfl) (retL (by rw [show i = a.length by omega]; exact fillTo_all rI a [.int .i64 0]))
set_option maxRecDepth 100000 in
theorem laws_toRecord_v (a : Rec) (hok : a.small) :
    CallV Try.prog 32 [.agg [.im true (.int .i64 a.able), .im true (.sl 1 (a.fields.map rS))]] (· = .agg [.im true (.int .i64 a.able), .im true (.sl 1 (a.fields.map rS))]) := by
  refine CallX (fn := Try.f32) TTok mixed Try.func32 rfl rfl rfl rfl rfl fun E c => ?_
  have b1 : a.fields.length ≤ 1048576 := hok
  refine vx c [(2, .lf (.ptr 1 0)), (3, .cell 1 [.im true (.int .i64 a.able), .im true (.sl 1 (a.fields.map rS))]), (4, .lf (.ptr 2 0)), (5, .cell 2 [.im true (.int .i64 0), .nil])] [] AllP.nil (by kernel_rfl) ?_
  refine vx c [(2, .lf (.ptr 1 0)), (3, .cell 1 [.im true (.int .i64 a.able), .im true (.sl 1 (a.fields.map rS))]), (4, .lf (.ptr 2 0)), (5, .cell 2 [.im true (.int .i64 0), .nil]), (6, .lf (.ptr 3 0)), (7, .cell 3 [.im true (.int .i64 0), .nil])] [] AllP.nil (by kernel_rfl) ?_
  refine vx c [(2, .lf (.ptr 1 0)), (3, .cell 1 [.im true (.int .i64 a.able), .im true (.sl 1 (a.fields.map rS))]), (4, .lf (.ptr 2 0)), (5, .cell 2 [.im true (.int .i64 0), .nil]), (6, .lf (.ptr 3 0)), (7, .cell 3 [.im true (.int .i64 a.able), .nil])] [] AllP.nil (by kernel_rfl) ?_
  refine vx c [(4, .lf (.ptr 2 0)), (5, .cell 2 [.im true (.int .i64 0), .nil]), (6, .lf (.ptr 3 0)), (7, .cell 3 [.im true (.int .i64 a.able), .im true (.sl 1 (a.fields.map rS))])] [(2, .ret (.lf (.im true (.sl 1 (a.fields.map rS)))))] (a2 (cl tx47 (laws_toStringS_v a.fields (by assumption))) AllP.nil) (by kernel_rfl) ?_
  refine vx c [(4, .lf (.ptr 2 0)), (5, .cell 2 [.im true (.int .i64 a.able), .im true (.sl 1 (a.fields.map rS))])] [] AllP.nil (by kernel_rfl) ?_
  exact xret [.agg [.im true (.int .i64 a.able), .im true (.sl 1 (a.fields.map rS))]] rfl (by kernel_rfl) (rfl)
set_option maxRecDepth 100000 in
theorem laws_toRecordS_v (a : List Rec) (ha : a.length ≤ 1048576) (hok : ∀ x ∈ a, x.small) :
    CallV Try.prog 18 [.lf (.im true (.sl 2 (a.map rRec)))] (· = .lf (.im true (.sl 2 (a.map rRec)))) := by
  refine CallX (fn := Try.f18) TTok mixed Try.func18 rfl rfl rfl rfl rfl fun E c => ?_
  refine vx c [(0, .lf (.im true (.sl 2 (a.map rRec))))] [] AllP.nil (by kernel_rfl) ?_
  refine vx c [(0, .lf (.im true (.sl 2 (a.map rRec)))), (6, .lf (.u 7 0 45 2 (fillTo rRec a [.int .i64 0, .sl 1 []] 0)))] [(1, .slot (.int ((a.length : Nat) : Int))), (2, .slot (.lf (.u 7 0 45 2 (fillTo rRec a [.int .i64 0, .sl 1 []] 0))))] (a2 (ln (l := a) (f := rRec)) (a2 (a1 (show (List.replicate a.length [.int .i64 0, .sl 1 []] : List (List SV)) = fillTo rRec a [.int .i64 0, .sl 1 []] 0 by exact fillTo_zero rRec a [.int .i64 0, .sl 1 []])) (a2 (mk (n := a.length) (b := 32) (by omega) (by unfold maxLen; omega)) AllP.nil))) (by kernel_rfl) ?_
  refine xw_seq ?_
  refine vx c [(0, .lf (.im true (.sl 2 (a.map rRec)))), (6, .lf (.u 7 0 45 2 (fillTo rRec a [.int .i64 0, .sl 1 []] 0))), (8, .int 0)] [] AllP.nil (by kernel_rfl) ?_
  refine xw_block ?_
  refine xw_loop (fun n L => ∃ (i : Nat), L = [(0, .lf (.im true (.sl 2 (a.map rRec)))), (6, .lf (.u 7 0 45 2 (fillTo rRec a [.int .i64 0, .sl 1 []] i))), (8, .int ((i : Nat) : Int))] ∧ n = a.length - i ∧ (i ≤ a.length)) _ ⟨0, rfl, rfl, by omega⟩ ?_
  rintro n L ⟨i, rfl, rfl, hP1⟩
  refine xw_seq ?_
  refine vx c [(0, .lf (.im true (.sl 2 (a.map rRec)))), (6, .lf (.u 7 0 45 2 (fillTo rRec a [.int .i64 0, .sl 1 []] i))), (8, .int ((i : Nat) : Int)), (22, .bool (decide ((((i : Nat) : Int) : Int) < ((a.length : Nat) : Int))))] [(2, .slot (.int ((a.length : Nat) : Int)))] (a2 (ln (l := a) (f := rRec)) AllP.nil) (by kernel_rfl) ?_
  refine xw_cond (decide ((((i : Nat) : Int) : Int) < ((a.length : Nat) : Int))) rfl (fun h1 => ?_) (fun h1 => ?_)
  · have h1 := of_dT h1
    refine xw_skip ?_
    refine xw_seq ?_
    refine xw_block ?_
    obtain ⟨x1, hx1⟩ := get_lt (l := a) (i := i) (by omega)
    refine vxe c [(0, .lf (.im true (.sl 2 (a.map rRec)))), (6, .lf (.u 7 0 45 2 (fillTo rRec a [.int .i64 0, .sl 1 []] (i + 1)))), (8, .int ((i : Nat) : Int))] [(4, .row (rRec x1)), (6, .ret (.agg [.im true (.int .i64 x1.able), .im true (.sl 1 (x1.fields.map rS))])), (8, .elem i 0 [.int .i64 0, .sl 1 []] (some (fillTo rRec a [.int .i64 0, .sl 1 []] (i + 1))))] (a2 (ix (f := rRec) (l := a) (i := i) hx1) (a2 (cl tx32 (laws_toRecord_v x1 (by exact mem_at hok hx1))) (a2 (ixu (i := i) (n := (fillTo rRec a [.int .i64 0, .sl 1 []] i).length) (by rw [fillTo_len (by omega)]; omega)) (a2 (fillU (f := rRec) (l := a) (zs := [.int .i64 0, .sl 1 []]) (i := i) (sz := 2) hx1 rfl rfl) AllP.nil)))) (by kernel_rfl) ?_
    exact vxe c [(0, .lf (.im true (.sl 2 (a.map rRec)))), (6, .lf (.u 7 0 45 2 (fillTo rRec a [.int .i64 0, .sl 1 []] (i + 1)))), (8, .int ((i + 1 : Nat) : Int))] [(1, .slot (.int ((i + 1 : Nat) : Int)))] (a2 (wI (a := ((i : Nat) : Int) + 1) (b := ((i + 1 : Nat) : Int)) (by omega) (by omega) (by omega)) AllP.nil) (by kernel_rfl) (⟨_, by omega, (i + 1), rfl, rfl, by omega⟩)
  · have h1 := of_dF h1
    refine xw_exit ?_
    refine xw_fr 3 [(0, .lf (.im true (.sl 2 (a.map rRec)))), (6, .lf (.im true (.sl 2 (fillTo rRec a [.int .i64 0, .sl 1 []] i)))), (8, .int ((i : Nat) : Int)), (22, .bool (decide ((((i : Nat) : Int) : Int) < ((a.length : Nat) : Int))))] (by kernel_rfl) ?_
    refine vx c [(4, .lf (.im true (.sl 2 (fillTo rRec a [.int .i64 0, .sl 1 []] i))))] [] AllP.nil (by kernel_rfl) ?_
    exact xret [.lf (.im true (.sl 2 (fillTo rRec a [.int .i64 0, .sl 1 []] i)))] rfl (by kernel_rfl) (retL (by rw [show i = a.length by omega]; exact fillTo_all rRec a [.int .i64 0, .sl 1 []]))
set_option maxRecDepth 100000 in
theorem laws_toIns_v (a : Ins) :
    CallV Try.prog 63 [.agg [.im true (.str a.op), .im true (.int .i64 a.a), .im true (.int .i64 a.b)]] (· = .agg [.im true (.str a.op), .im true (.int .i64 a.a), .im true (.int .i64 a.b)]) := by
  refine CallX (fn := Try.f63) TTok mixed Try.func63 rfl rfl rfl rfl rfl fun E c => ?_
  refine vx c [(2, .lf (.ptr 1 0)), (3, .cell 1 [.im true (.str a.op), .im true (.int .i64 a.a), .im true (.int .i64 a.b)]), (4, .lf (.ptr 2 0)), (5, .cell 2 [.im true (.str ⟨#[]⟩), .im true (.int .i64 0), .im true (.int .i64 0)])] [] AllP.nil (by kernel_rfl) ?_
  refine vx c [(2, .lf (.ptr 1 0)), (3, .cell 1 [.im true (.str a.op), .im true (.int .i64 a.a), .im true (.int .i64 a.b)]), (4, .lf (.ptr 2 0)), (5, .cell 2 [.im true (.str ⟨#[]⟩), .im true (.int .i64 0), .im true (.int .i64 0)]), (6, .lf (.ptr 3 0)), (7, .cell 3 [.im true (.str ⟨#[]⟩), .im true (.int .i64 0), .im true (.int .i64 0)])] [] AllP.nil (by kernel_rfl) ?_
  refine vx c [(2, .lf (.ptr 1 0)), (3, .cell 1 [.im true (.str a.op), .im true (.int .i64 a.a), .im true (.int .i64 a.b)]), (4, .lf (.ptr 2 0)), (5, .cell 2 [.im true (.str ⟨#[]⟩), .im true (.int .i64 0), .im true (.int .i64 0)]), (6, .lf (.ptr 3 0)), (7, .cell 3 [.im true (.str a.op), .im true (.int .i64 0), .im true (.int .i64 0)])] [] AllP.nil (by kernel_rfl) ?_
  refine vx c [(2, .lf (.ptr 1 0)), (3, .cell 1 [.im true (.str a.op), .im true (.int .i64 a.a), .im true (.int .i64 a.b)]), (4, .lf (.ptr 2 0)), (5, .cell 2 [.im true (.str ⟨#[]⟩), .im true (.int .i64 0), .im true (.int .i64 0)]), (6, .lf (.ptr 3 0)), (7, .cell 3 [.im true (.str a.op), .im true (.int .i64 a.a), .im true (.int .i64 0)])] [] AllP.nil (by kernel_rfl) ?_
  refine vx c [(4, .lf (.ptr 2 0)), (5, .cell 2 [.im true (.str ⟨#[]⟩), .im true (.int .i64 0), .im true (.int .i64 0)]), (6, .lf (.ptr 3 0)), (7, .cell 3 [.im true (.str a.op), .im true (.int .i64 a.a), .im true (.int .i64 a.b)])] [] AllP.nil (by kernel_rfl) ?_
  refine vx c [(4, .lf (.ptr 2 0)), (5, .cell 2 [.im true (.str a.op), .im true (.int .i64 a.a), .im true (.int .i64 a.b)])] [] AllP.nil (by kernel_rfl) ?_
  exact xret [.agg [.im true (.str a.op), .im true (.int .i64 a.a), .im true (.int .i64 a.b)]] rfl (by kernel_rfl) (rfl)
set_option maxRecDepth 100000 in
theorem laws_toInsS_v (a : List Ins) (ha : a.length ≤ 1048576) :
    CallV Try.prog 48 [.lf (.im true (.sl 3 (a.map rIns)))] (· = .lf (.im true (.sl 3 (a.map rIns)))) := by
  refine CallX (fn := Try.f48) TTok mixed Try.func48 rfl rfl rfl rfl rfl fun E c => ?_
  refine vx c [(0, .lf (.im true (.sl 3 (a.map rIns))))] [] AllP.nil (by kernel_rfl) ?_
  refine vx c [(0, .lf (.im true (.sl 3 (a.map rIns)))), (6, .lf (.u 7 0 95 3 (fillTo rIns a [.str ⟨#[]⟩, .int .i64 0, .int .i64 0] 0)))] [(1, .slot (.int ((a.length : Nat) : Int))), (2, .slot (.lf (.u 7 0 95 3 (fillTo rIns a [.str ⟨#[]⟩, .int .i64 0, .int .i64 0] 0))))] (a2 (ln (l := a) (f := rIns)) (a2 (a1 (show (List.replicate a.length [.str ⟨#[]⟩, .int .i64 0, .int .i64 0] : List (List SV)) = fillTo rIns a [.str ⟨#[]⟩, .int .i64 0, .int .i64 0] 0 by exact fillTo_zero rIns a [.str ⟨#[]⟩, .int .i64 0, .int .i64 0])) (a2 (mk (n := a.length) (b := 32) (by omega) (by unfold maxLen; omega)) AllP.nil))) (by kernel_rfl) ?_
  refine xw_seq ?_
  refine vx c [(0, .lf (.im true (.sl 3 (a.map rIns)))), (6, .lf (.u 7 0 95 3 (fillTo rIns a [.str ⟨#[]⟩, .int .i64 0, .int .i64 0] 0))), (8, .int 0)] [] AllP.nil (by kernel_rfl) ?_
  refine xw_block ?_
  refine xw_loop (fun n L => ∃ (i : Nat), L = [(0, .lf (.im true (.sl 3 (a.map rIns)))), (6, .lf (.u 7 0 95 3 (fillTo rIns a [.str ⟨#[]⟩, .int .i64 0, .int .i64 0] i))), (8, .int ((i : Nat) : Int))] ∧ n = a.length - i ∧ (i ≤ a.length)) _ ⟨0, rfl, rfl, by omega⟩ ?_
  rintro n L ⟨i, rfl, rfl, hP1⟩
  refine xw_seq ?_
  refine vx c [(0, .lf (.im true (.sl 3 (a.map rIns)))), (6, .lf (.u 7 0 95 3 (fillTo rIns a [.str ⟨#[]⟩, .int .i64 0, .int .i64 0] i))), (8, .int ((i : Nat) : Int)), (22, .bool (decide ((((i : Nat) : Int) : Int) < ((a.length : Nat) : Int))))] [(2, .slot (.int ((a.length : Nat) : Int)))] (a2 (ln (l := a) (f := rIns)) AllP.nil) (by kernel_rfl) ?_
  refine xw_cond (decide ((((i : Nat) : Int) : Int) < ((a.length : Nat) : Int))) rfl (fun h1 => ?_) (fun h1 => ?_)
  · have h1 := of_dT h1
    refine xw_skip ?_
    refine xw_seq ?_
    refine xw_block ?_
    obtain ⟨x1, hx1⟩ := get_lt (l := a) (i := i) (by omega)
    refine vxe c [(0, .lf (.im true (.sl 3 (a.map rIns)))), (6, .lf (.u 7 0 95 3 (fillTo rIns a [.str ⟨#[]⟩, .int .i64 0, .int .i64 0] (i + 1)))), (8, .int ((i : Nat) : Int))] [(4, .row (rIns x1)), (6, .ret (.agg [.im true (.str x1.op), .im true (.int .i64 x1.a), .im true (.int .i64 x1.b)])), (8, .elem i 0 [.str ⟨#[]⟩, .int .i64 0, .int .i64 0] (some (fillTo rIns a [.str ⟨#[]⟩, .int .i64 0, .int .i64 0] (i + 1))))] (a2 (ix (f := rIns) (l := a) (i := i) hx1) (a2 (cl tx63 (laws_toIns_v x1)) (a2 (ixu (i := i) (n := (fillTo rIns a [.str ⟨#[]⟩, .int .i64 0, .int .i64 0] i).length) (by rw [fillTo_len (by omega)]; omega)) (a2 (fillU (f := rIns) (l := a) (zs := [.str ⟨#[]⟩, .int .i64 0, .int .i64 0]) (i := i) (sz := 3) hx1 rfl rfl) AllP.nil)))) (by kernel_rfl) ?_
    exact vxe c [(0, .lf (.im true (.sl 3 (a.map rIns)))), (6, .lf (.u 7 0 95 3 (fillTo rIns a [.str ⟨#[]⟩, .int .i64 0, .int .i64 0] (i + 1)))), (8, .int ((i + 1 : Nat) : Int))] [(1, .slot (.int ((i + 1 : Nat) : Int)))] (a2 (wI (a := ((i : Nat) : Int) + 1) (b := ((i + 1 : Nat) : Int)) (by omega) (by omega) (by omega)) AllP.nil) (by kernel_rfl) (⟨_, by omega, (i + 1), rfl, rfl, by omega⟩)
  · have h1 := of_dF h1
    refine xw_exit ?_
    refine xw_fr 3 [(0, .lf (.im true (.sl 3 (a.map rIns)))), (6, .lf (.im true (.sl 3 (fillTo rIns a [.str ⟨#[]⟩, .int .i64 0, .int .i64 0] i)))), (8, .int ((i : Nat) : Int)), (22, .bool (decide ((((i : Nat) : Int) : Int) < ((a.length : Nat) : Int))))] (by kernel_rfl) ?_
    refine vx c [(4, .lf (.im true (.sl 3 (fillTo rIns a [.str ⟨#[]⟩, .int .i64 0, .int .i64 0] i))))] [] AllP.nil (by kernel_rfl) ?_
    exact xret [.lf (.im true (.sl 3 (fillTo rIns a [.str ⟨#[]⟩, .int .i64 0, .int .i64 0] i)))] rfl (by kernel_rfl) (retL (by rw [show i = a.length by omega]; exact fillTo_all rIns a [.str ⟨#[]⟩, .int .i64 0, .int .i64 0]))
set_option maxRecDepth 100000 in
theorem laws_toFunc_v (a : Fn) (hok : a.small) :
    CallV Try.prog 33 [.agg [.im true (.int .i64 a.seen), .im true (.sl 1 (a.args.map rS)), .im true (.sl 1 (a.rets.map rS)), .im true (.sl 1 (a.locals.map rS)), .im true (.sl 1 (a.takes.map rI)), .im true (.sl 3 (a.code.map rIns))]] (· = .agg [.im true (.int .i64 a.seen), .im true (.sl 1 (a.args.map rS)), .im true (.sl 1 (a.rets.map rS)), .im true (.sl 1 (a.locals.map rS)), .im true (.sl 1 (a.takes.map rI)), .im true (.sl 3 (a.code.map rIns))]) := by
  refine CallX (fn := Try.f33) TTok mixed Try.func33 rfl rfl rfl rfl rfl fun E c => ?_
  obtain ⟨b1, b2, b3, b4, b5⟩ := hok
  refine vx c [(2, .lf (.ptr 1 0)), (3, .cell 1 [.im true (.int .i64 a.seen), .im true (.sl 1 (a.args.map rS)), .im true (.sl 1 (a.rets.map rS)), .im true (.sl 1 (a.locals.map rS)), .im true (.sl 1 (a.takes.map rI)), .im true (.sl 3 (a.code.map rIns))]), (4, .lf (.ptr 2 0)), (5, .cell 2 [.im true (.int .i64 0), .nil, .nil, .nil, .nil, .nil])] [] AllP.nil (by kernel_rfl) ?_
  refine vx c [(2, .lf (.ptr 1 0)), (3, .cell 1 [.im true (.int .i64 a.seen), .im true (.sl 1 (a.args.map rS)), .im true (.sl 1 (a.rets.map rS)), .im true (.sl 1 (a.locals.map rS)), .im true (.sl 1 (a.takes.map rI)), .im true (.sl 3 (a.code.map rIns))]), (4, .lf (.ptr 2 0)), (5, .cell 2 [.im true (.int .i64 0), .nil, .nil, .nil, .nil, .nil]), (6, .lf (.ptr 3 0)), (7, .cell 3 [.im true (.int .i64 0), .nil, .nil, .nil, .nil, .nil])] [] AllP.nil (by kernel_rfl) ?_
  refine vx c [(2, .lf (.ptr 1 0)), (3, .cell 1 [.im true (.int .i64 a.seen), .im true (.sl 1 (a.args.map rS)), .im true (.sl 1 (a.rets.map rS)), .im true (.sl 1 (a.locals.map rS)), .im true (.sl 1 (a.takes.map rI)), .im true (.sl 3 (a.code.map rIns))]), (4, .lf (.ptr 2 0)), (5, .cell 2 [.im true (.int .i64 0), .nil, .nil, .nil, .nil, .nil]), (6, .lf (.ptr 3 0)), (7, .cell 3 [.im true (.int .i64 a.seen), .nil, .nil, .nil, .nil, .nil])] [] AllP.nil (by kernel_rfl) ?_
  refine vx c [(2, .lf (.ptr 1 0)), (3, .cell 1 [.im true (.int .i64 a.seen), .im true (.sl 1 (a.args.map rS)), .im true (.sl 1 (a.rets.map rS)), .im true (.sl 1 (a.locals.map rS)), .im true (.sl 1 (a.takes.map rI)), .im true (.sl 3 (a.code.map rIns))]), (4, .lf (.ptr 2 0)), (5, .cell 2 [.im true (.int .i64 0), .nil, .nil, .nil, .nil, .nil]), (6, .lf (.ptr 3 0)), (7, .cell 3 [.im true (.int .i64 a.seen), .im true (.sl 1 (a.args.map rS)), .nil, .nil, .nil, .nil])] [(2, .ret (.lf (.im true (.sl 1 (a.args.map rS)))))] (a2 (cl tx47 (laws_toStringS_v a.args (by assumption))) AllP.nil) (by kernel_rfl) ?_
  refine vx c [(2, .lf (.ptr 1 0)), (3, .cell 1 [.im true (.int .i64 a.seen), .im true (.sl 1 (a.args.map rS)), .im true (.sl 1 (a.rets.map rS)), .im true (.sl 1 (a.locals.map rS)), .im true (.sl 1 (a.takes.map rI)), .im true (.sl 3 (a.code.map rIns))]), (4, .lf (.ptr 2 0)), (5, .cell 2 [.im true (.int .i64 0), .nil, .nil, .nil, .nil, .nil]), (6, .lf (.ptr 3 0)), (7, .cell 3 [.im true (.int .i64 a.seen), .im true (.sl 1 (a.args.map rS)), .im true (.sl 1 (a.rets.map rS)), .nil, .nil, .nil])] [(2, .ret (.lf (.im true (.sl 1 (a.rets.map rS)))))] (a2 (cl tx47 (laws_toStringS_v a.rets (by assumption))) AllP.nil) (by kernel_rfl) ?_
  refine vx c [(2, .lf (.ptr 1 0)), (3, .cell 1 [.im true (.int .i64 a.seen), .im true (.sl 1 (a.args.map rS)), .im true (.sl 1 (a.rets.map rS)), .im true (.sl 1 (a.locals.map rS)), .im true (.sl 1 (a.takes.map rI)), .im true (.sl 3 (a.code.map rIns))]), (4, .lf (.ptr 2 0)), (5, .cell 2 [.im true (.int .i64 0), .nil, .nil, .nil, .nil, .nil]), (6, .lf (.ptr 3 0)), (7, .cell 3 [.im true (.int .i64 a.seen), .im true (.sl 1 (a.args.map rS)), .im true (.sl 1 (a.rets.map rS)), .im true (.sl 1 (a.locals.map rS)), .nil, .nil])] [(2, .ret (.lf (.im true (.sl 1 (a.locals.map rS)))))] (a2 (cl tx47 (laws_toStringS_v a.locals (by assumption))) AllP.nil) (by kernel_rfl) ?_
  refine vx c [(2, .lf (.ptr 1 0)), (3, .cell 1 [.im true (.int .i64 a.seen), .im true (.sl 1 (a.args.map rS)), .im true (.sl 1 (a.rets.map rS)), .im true (.sl 1 (a.locals.map rS)), .im true (.sl 1 (a.takes.map rI)), .im true (.sl 3 (a.code.map rIns))]), (4, .lf (.ptr 2 0)), (5, .cell 2 [.im true (.int .i64 0), .nil, .nil, .nil, .nil, .nil]), (6, .lf (.ptr 3 0)), (7, .cell 3 [.im true (.int .i64 a.seen), .im true (.sl 1 (a.args.map rS)), .im true (.sl 1 (a.rets.map rS)), .im true (.sl 1 (a.locals.map rS)), .im true (.sl 1 (a.takes.map rI)), .nil])] [(2, .ret (.lf (.im true (.sl 1 (a.takes.map rI)))))] (a2 (cl tx20 (laws_toIntS_v a.takes (by assumption))) AllP.nil) (by kernel_rfl) ?_
  refine vx c [(4, .lf (.ptr 2 0)), (5, .cell 2 [.im true (.int .i64 0), .nil, .nil, .nil, .nil, .nil]), (6, .lf (.ptr 3 0)), (7, .cell 3 [.im true (.int .i64 a.seen), .im true (.sl 1 (a.args.map rS)), .im true (.sl 1 (a.rets.map rS)), .im true (.sl 1 (a.locals.map rS)), .im true (.sl 1 (a.takes.map rI)), .im true (.sl 3 (a.code.map rIns))])] [(2, .ret (.lf (.im true (.sl 3 (a.code.map rIns)))))] (a2 (cl tx48 (laws_toInsS_v a.code (by assumption))) AllP.nil) (by kernel_rfl) ?_
  refine vx c [(4, .lf (.ptr 2 0)), (5, .cell 2 [.im true (.int .i64 a.seen), .im true (.sl 1 (a.args.map rS)), .im true (.sl 1 (a.rets.map rS)), .im true (.sl 1 (a.locals.map rS)), .im true (.sl 1 (a.takes.map rI)), .im true (.sl 3 (a.code.map rIns))])] [] AllP.nil (by kernel_rfl) ?_
  exact xret [.agg [.im true (.int .i64 a.seen), .im true (.sl 1 (a.args.map rS)), .im true (.sl 1 (a.rets.map rS)), .im true (.sl 1 (a.locals.map rS)), .im true (.sl 1 (a.takes.map rI)), .im true (.sl 3 (a.code.map rIns))]] rfl (by kernel_rfl) (rfl)
set_option maxRecDepth 100000 in
theorem laws_toFuncS_v (a : List Fn) (ha : a.length ≤ 1048576) (hok : ∀ x ∈ a, x.small) :
    CallV Try.prog 19 [.lf (.im true (.sl 6 (a.map rFn)))] (· = .lf (.im true (.sl 6 (a.map rFn)))) := by
  refine CallX (fn := Try.f19) TTok mixed Try.func19 rfl rfl rfl rfl rfl fun E c => ?_
  refine vx c [(0, .lf (.im true (.sl 6 (a.map rFn))))] [] AllP.nil (by kernel_rfl) ?_
  refine vx c [(0, .lf (.im true (.sl 6 (a.map rFn)))), (6, .lf (.u 7 0 50 6 (fillTo rFn a [.int .i64 0, .sl 1 [], .sl 1 [], .sl 1 [], .sl 1 [], .sl 3 []] 0)))] [(1, .slot (.int ((a.length : Nat) : Int))), (2, .slot (.lf (.u 7 0 50 6 (fillTo rFn a [.int .i64 0, .sl 1 [], .sl 1 [], .sl 1 [], .sl 1 [], .sl 3 []] 0))))] (a2 (ln (l := a) (f := rFn)) (a2 (a1 (show (List.replicate a.length [.int .i64 0, .sl 1 [], .sl 1 [], .sl 1 [], .sl 1 [], .sl 3 []] : List (List SV)) = fillTo rFn a [.int .i64 0, .sl 1 [], .sl 1 [], .sl 1 [], .sl 1 [], .sl 3 []] 0 by exact fillTo_zero rFn a [.int .i64 0, .sl 1 [], .sl 1 [], .sl 1 [], .sl 1 [], .sl 3 []])) (a2 (mk (n := a.length) (b := 128) (by omega) (by unfold maxLen; omega)) AllP.nil))) (by kernel_rfl) ?_
  refine xw_seq ?_
  refine vx c [(0, .lf (.im true (.sl 6 (a.map rFn)))), (6, .lf (.u 7 0 50 6 (fillTo rFn a [.int .i64 0, .sl 1 [], .sl 1 [], .sl 1 [], .sl 1 [], .sl 3 []] 0))), (8, .int 0)] [] AllP.nil (by kernel_rfl) ?_
  refine xw_block ?_
  refine xw_loop (fun n L => ∃ (i : Nat), L = [(0, .lf (.im true (.sl 6 (a.map rFn)))), (6, .lf (.u 7 0 50 6 (fillTo rFn a [.int .i64 0, .sl 1 [], .sl 1 [], .sl 1 [], .sl 1 [], .sl 3 []] i))), (8, .int ((i : Nat) : Int))] ∧ n = a.length - i ∧ (i ≤ a.length)) _ ⟨0, rfl, rfl, by omega⟩ ?_
  rintro n L ⟨i, rfl, rfl, hP1⟩
  refine xw_seq ?_
  refine vx c [(0, .lf (.im true (.sl 6 (a.map rFn)))), (6, .lf (.u 7 0 50 6 (fillTo rFn a [.int .i64 0, .sl 1 [], .sl 1 [], .sl 1 [], .sl 1 [], .sl 3 []] i))), (8, .int ((i : Nat) : Int)), (22, .bool (decide ((((i : Nat) : Int) : Int) < ((a.length : Nat) : Int))))] [(2, .slot (.int ((a.length : Nat) : Int)))] (a2 (ln (l := a) (f := rFn)) AllP.nil) (by kernel_rfl) ?_
  refine xw_cond (decide ((((i : Nat) : Int) : Int) < ((a.length : Nat) : Int))) rfl (fun h1 => ?_) (fun h1 => ?_)
  · have h1 := of_dT h1
    refine xw_skip ?_
    refine xw_seq ?_
    refine xw_block ?_
    obtain ⟨x1, hx1⟩ := get_lt (l := a) (i := i) (by omega)
    refine vxe c [(0, .lf (.im true (.sl 6 (a.map rFn)))), (6, .lf (.u 7 0 50 6 (fillTo rFn a [.int .i64 0, .sl 1 [], .sl 1 [], .sl 1 [], .sl 1 [], .sl 3 []] (i + 1)))), (8, .int ((i : Nat) : Int))] [(4, .row (rFn x1)), (6, .ret (.agg [.im true (.int .i64 x1.seen), .im true (.sl 1 (x1.args.map rS)), .im true (.sl 1 (x1.rets.map rS)), .im true (.sl 1 (x1.locals.map rS)), .im true (.sl 1 (x1.takes.map rI)), .im true (.sl 3 (x1.code.map rIns))])), (8, .elem i 0 [.int .i64 0, .sl 1 [], .sl 1 [], .sl 1 [], .sl 1 [], .sl 3 []] (some (fillTo rFn a [.int .i64 0, .sl 1 [], .sl 1 [], .sl 1 [], .sl 1 [], .sl 3 []] (i + 1))))] (a2 (ix (f := rFn) (l := a) (i := i) hx1) (a2 (cl tx33 (laws_toFunc_v x1 (by exact mem_at hok hx1))) (a2 (ixu (i := i) (n := (fillTo rFn a [.int .i64 0, .sl 1 [], .sl 1 [], .sl 1 [], .sl 1 [], .sl 3 []] i).length) (by rw [fillTo_len (by omega)]; omega)) (a2 (fillU (f := rFn) (l := a) (zs := [.int .i64 0, .sl 1 [], .sl 1 [], .sl 1 [], .sl 1 [], .sl 3 []]) (i := i) (sz := 6) hx1 rfl rfl) AllP.nil)))) (by kernel_rfl) ?_
    exact vxe c [(0, .lf (.im true (.sl 6 (a.map rFn)))), (6, .lf (.u 7 0 50 6 (fillTo rFn a [.int .i64 0, .sl 1 [], .sl 1 [], .sl 1 [], .sl 1 [], .sl 3 []] (i + 1)))), (8, .int ((i + 1 : Nat) : Int))] [(1, .slot (.int ((i + 1 : Nat) : Int)))] (a2 (wI (a := ((i : Nat) : Int) + 1) (b := ((i + 1 : Nat) : Int)) (by omega) (by omega) (by omega)) AllP.nil) (by kernel_rfl) (⟨_, by omega, (i + 1), rfl, rfl, by omega⟩)
  · have h1 := of_dF h1
    refine xw_exit ?_
    refine xw_fr 3 [(0, .lf (.im true (.sl 6 (a.map rFn)))), (6, .lf (.im true (.sl 6 (fillTo rFn a [.int .i64 0, .sl 1 [], .sl 1 [], .sl 1 [], .sl 1 [], .sl 3 []] i)))), (8, .int ((i : Nat) : Int)), (22, .bool (decide ((((i : Nat) : Int) : Int) < ((a.length : Nat) : Int))))] (by kernel_rfl) ?_
    refine vx c [(4, .lf (.im true (.sl 6 (fillTo rFn a [.int .i64 0, .sl 1 [], .sl 1 [], .sl 1 [], .sl 1 [], .sl 3 []] i))))] [] AllP.nil (by kernel_rfl) ?_
    exact xret [.lf (.im true (.sl 6 (fillTo rFn a [.int .i64 0, .sl 1 [], .sl 1 [], .sl 1 [], .sl 1 [], .sl 3 []] i)))] rfl (by kernel_rfl) (retL (by rw [show i = a.length by omega]; exact fillTo_all rFn a [.int .i64 0, .sl 1 [], .sl 1 [], .sl 1 [], .sl 1 [], .sl 3 []]))
set_option maxRecDepth 100000 in
theorem laws_toModule_v (a : Mod) (hok : a.small) :
    CallV Try.prog 7 [.agg [.im true (.sl 2 (a.records.map rRec)), .im true (.sl 6 (a.funcs.map rFn)), .im true (.sl 1 (a.friends.map rI))]] (· = .agg [.im true (.sl 2 (a.records.map rRec)), .im true (.sl 6 (a.funcs.map rFn)), .im true (.sl 1 (a.friends.map rI))]) := by
  refine CallX (fn := Try.f7) TTok mixed Try.func7 rfl rfl rfl rfl rfl fun E c => ?_
  obtain ⟨⟨b1, b2⟩, ⟨b3, b4⟩, b5⟩ := hok
  refine vx c [(2, .lf (.ptr 1 0)), (3, .cell 1 [.im true (.sl 2 (a.records.map rRec)), .im true (.sl 6 (a.funcs.map rFn)), .im true (.sl 1 (a.friends.map rI))]), (4, .lf (.ptr 2 0)), (5, .cell 2 [.nil, .nil, .nil])] [] AllP.nil (by kernel_rfl) ?_
  refine vx c [(2, .lf (.ptr 1 0)), (3, .cell 1 [.im true (.sl 2 (a.records.map rRec)), .im true (.sl 6 (a.funcs.map rFn)), .im true (.sl 1 (a.friends.map rI))]), (4, .lf (.ptr 2 0)), (5, .cell 2 [.nil, .nil, .nil]), (6, .lf (.ptr 3 0)), (7, .cell 3 [.nil, .nil, .nil])] [] AllP.nil (by kernel_rfl) ?_
  refine vx c [(2, .lf (.ptr 1 0)), (3, .cell 1 [.im true (.sl 2 (a.records.map rRec)), .im true (.sl 6 (a.funcs.map rFn)), .im true (.sl 1 (a.friends.map rI))]), (4, .lf (.ptr 2 0)), (5, .cell 2 [.nil, .nil, .nil]), (6, .lf (.ptr 3 0)), (7, .cell 3 [.im true (.sl 2 (a.records.map rRec)), .nil, .nil])] [(2, .ret (.lf (.im true (.sl 2 (a.records.map rRec)))))] (a2 (cl tx18 (laws_toRecordS_v a.records (by assumption) (by assumption))) AllP.nil) (by kernel_rfl) ?_
  refine vx c [(2, .lf (.ptr 1 0)), (3, .cell 1 [.im true (.sl 2 (a.records.map rRec)), .im true (.sl 6 (a.funcs.map rFn)), .im true (.sl 1 (a.friends.map rI))]), (4, .lf (.ptr 2 0)), (5, .cell 2 [.nil, .nil, .nil]), (6, .lf (.ptr 3 0)), (7, .cell 3 [.im true (.sl 2 (a.records.map rRec)), .im true (.sl 6 (a.funcs.map rFn)), .nil])] [(2, .ret (.lf (.im true (.sl 6 (a.funcs.map rFn)))))] (a2 (cl tx19 (laws_toFuncS_v a.funcs (by assumption) (by assumption))) AllP.nil) (by kernel_rfl) ?_
  refine vx c [(4, .lf (.ptr 2 0)), (5, .cell 2 [.nil, .nil, .nil]), (6, .lf (.ptr 3 0)), (7, .cell 3 [.im true (.sl 2 (a.records.map rRec)), .im true (.sl 6 (a.funcs.map rFn)), .im true (.sl 1 (a.friends.map rI))])] [(2, .ret (.lf (.im true (.sl 1 (a.friends.map rI)))))] (a2 (cl tx20 (laws_toIntS_v a.friends (by assumption))) AllP.nil) (by kernel_rfl) ?_
  refine vx c [(4, .lf (.ptr 2 0)), (5, .cell 2 [.im true (.sl 2 (a.records.map rRec)), .im true (.sl 6 (a.funcs.map rFn)), .im true (.sl 1 (a.friends.map rI))])] [] AllP.nil (by kernel_rfl) ?_
  exact xret [.agg [.im true (.sl 2 (a.records.map rRec)), .im true (.sl 6 (a.funcs.map rFn)), .im true (.sl 1 (a.friends.map rI))]] rfl (by kernel_rfl) (rfl)
set_option maxRecDepth 100000 in
theorem spec_l13Texts_v (a b : List ByteArray) (ha : a.length ≤ 140737488355328) :
    CallV Try.prog 15 [.lf (.im true (.sl 1 (a.map rS))), .lf (.im true (.sl 1 (b.map rS)))] (· = .bool (decide (a = b))) := by
  refine CallX (fn := Try.f15) TTok mixed Try.func15 rfl rfl rfl rfl rfl fun E c => ?_
  refine vx c [(0, .lf (.im true (.sl 1 (a.map rS)))), (2, .lf (.im true (.sl 1 (b.map rS))))] [] AllP.nil (by kernel_rfl) ?_
  refine xw_seq ?_
  refine vx c [(0, .lf (.im true (.sl 1 (a.map rS)))), (2, .lf (.im true (.sl 1 (b.map rS)))), (20, .bool (decide ((((a.length : Nat) : Int) : Int) ≠ ((b.length : Nat) : Int))))] [(1, .slot (.int ((a.length : Nat) : Int))), (3, .slot (.int ((b.length : Nat) : Int)))] (a2 (ln (l := a) (f := rS)) (a2 (ln (l := b) (f := rS)) AllP.nil)) (by kernel_rfl) ?_
  refine xw_cond (decide ((((a.length : Nat) : Int) : Int) ≠ ((b.length : Nat) : Int))) rfl (fun h1 => ?_) (fun h1 => ?_)
  · have h1 := of_dT h1
    refine vx c [(8, .bool false)] [] AllP.nil (by kernel_rfl) ?_
    exact xret [.lf (.im true (.bool false))] rfl (by kernel_rfl) (retF (ne_len h1))
  · have h1 := of_dF h1
    have hl : a.length = b.length := by omega
    refine xw_skip ?_
    refine xw_seq ?_
    refine vx c [(0, .lf (.im true (.sl 1 (a.map rS)))), (2, .lf (.im true (.sl 1 (b.map rS)))), (10, .int 0)] [] AllP.nil (by kernel_rfl) ?_
    refine xw_block ?_
    refine xw_loop (fun n L => ∃ (i : Nat), L = [(0, .lf (.im true (.sl 1 (a.map rS)))), (2, .lf (.im true (.sl 1 (b.map rS)))), (10, .int ((i : Nat) : Int))] ∧ n = a.length - i ∧ (i ≤ a.length ∧ a.take i = b.take i)) _ ⟨0, rfl, rfl, ⟨by omega, by simp⟩⟩ ?_
    rintro n L ⟨i, rfl, rfl, hP1⟩
    refine xw_seq ?_
    refine vx c [(0, .lf (.im true (.sl 1 (a.map rS)))), (2, .lf (.im true (.sl 1 (b.map rS)))), (10, .int ((i : Nat) : Int)), (28, .bool (decide ((((i : Nat) : Int) : Int) < ((a.length : Nat) : Int))))] [(2, .slot (.int ((a.length : Nat) : Int)))] (a2 (ln (l := a) (f := rS)) AllP.nil) (by kernel_rfl) ?_
    refine xw_cond (decide ((((i : Nat) : Int) : Int) < ((a.length : Nat) : Int))) rfl (fun h2 => ?_) (fun h2 => ?_)
    · have h2 := of_dT h2
      refine xw_skip ?_
      refine xw_seq ?_
      refine xw_block ?_
      obtain ⟨x1, hx1⟩ := get_lt (l := a) (i := i) (by omega)
      obtain ⟨x2, hx2⟩ := get_lt (l := b) (i := i) (by omega)
      refine vx c [(0, .lf (.im true (.sl 1 (a.map rS)))), (2, .lf (.im true (.sl 1 (b.map rS)))), (10, .int ((i : Nat) : Int)), (50, .bool (!(x1.toList == x2.toList)))] [(2, .row (rS x1)), (6, .row (rS x2))] (a2 (ix (f := rS) (l := a) (i := i) hx1) (a2 (ix (f := rS) (l := b) (i := i) hx2) AllP.nil)) (by kernel_rfl) ?_
      refine xw_cond (!(x1.toList == x2.toList)) rfl (fun h3 => ?_) (fun h3 => ?_)
      · have h3 : (x1.toList == x2.toList) = false := of_nT h3
        refine vx c [(8, .bool false)] [] AllP.nil (by kernel_rfl) ?_
        exact xret [.lf (.im true (.bool false))] rfl (by kernel_rfl) (retF (ne_at hx1 hx2 (by intro e; subst e; simp at h3)))
      · have h3 : (x1.toList == x2.toList) = true := of_nF h3
        refine xw_skip ?_
        exact vxe c [(0, .lf (.im true (.sl 1 (a.map rS)))), (2, .lf (.im true (.sl 1 (b.map rS)))), (10, .int ((i + 1 : Nat) : Int))] [(1, .slot (.int ((i + 1 : Nat) : Int)))] (a2 (wI (a := ((i : Nat) : Int) + 1) (b := ((i + 1 : Nat) : Int)) (by omega) (by omega) (by omega)) AllP.nil) (by kernel_rfl) (⟨_, by omega, (i + 1), rfl, rfl, ⟨by omega, (take_succ_eq hx1 hx2).2 ⟨hP1.2, bytes_eq.1 (by simpa using h3)⟩⟩⟩)
    · have h2 := of_dF h2
      refine xw_exit ?_
      refine vx c [(8, .bool true)] [] AllP.nil (by kernel_rfl) ?_
      exact xret [.lf (.im true (.bool true))] rfl (by kernel_rfl) (retT (all_take hl (by omega) hP1.2))
set_option maxRecDepth 100000 in
theorem slices_Equal___string_string__v (a b : List ByteArray) (ha : a.length ≤ 140737488355328) :
    CallV Try.prog 21 [.lf (.im true (.sl 1 (a.map rS))), .lf (.im true (.sl 1 (b.map rS)))] (· = .bool (decide (a = b))) := by
  refine CallX (fn := Try.f21) TTok mixed Try.func21 rfl rfl rfl rfl rfl fun E c => ?_
  refine vx c [(0, .lf (.im true (.sl 1 (a.map rS)))), (2, .lf (.im true (.sl 1 (b.map rS))))] [] AllP.nil (by kernel_rfl) ?_
  refine xw_seq ?_
  refine vx c [(0, .lf (.im true (.sl 1 (a.map rS)))), (2, .lf (.im true (.sl 1 (b.map rS)))), (20, .bool (decide ((((a.length : Nat) : Int) : Int) ≠ ((b.length : Nat) : Int))))] [(1, .slot (.int ((a.length : Nat) : Int))), (3, .slot (.int ((b.length : Nat) : Int)))] (a2 (ln (l := a) (f := rS)) (a2 (ln (l := b) (f := rS)) AllP.nil)) (by kernel_rfl) ?_
  refine xw_cond (decide ((((a.length : Nat) : Int) : Int) ≠ ((b.length : Nat) : Int))) rfl (fun h1 => ?_) (fun h1 => ?_)
  · have h1 := of_dT h1
    refine vx c [(8, .bool false)] [] AllP.nil (by kernel_rfl) ?_
    exact xret [.lf (.im true (.bool false))] rfl (by kernel_rfl) (retF (ne_len h1))
  · have h1 := of_dF h1
    have hl : a.length = b.length := by omega
    refine xw_skip ?_
    refine xw_seq ?_
    refine vx c [(0, .lf (.im true (.sl 1 (a.map rS)))), (2, .lf (.im true (.sl 1 (b.map rS)))), (24, .int ((a.length : Nat) : Int)), (26, .int 0)] [(1, .slot (.int ((a.length : Nat) : Int)))] (a2 (ln (l := a) (f := rS)) AllP.nil) (by kernel_rfl) ?_
    refine xw_block ?_
    refine xw_loop (fun n L => ∃ (i : Nat), L = [(0, .lf (.im true (.sl 1 (a.map rS)))), (2, .lf (.im true (.sl 1 (b.map rS)))), (24, .int ((a.length : Nat) : Int)), (26, .int ((i : Nat) : Int))] ∧ n = a.length - i ∧ (i ≤ a.length ∧ a.take i = b.take i)) _ ⟨0, rfl, rfl, ⟨by omega, by simp⟩⟩ ?_
    rintro n L ⟨i, rfl, rfl, hP1⟩
    refine vx c [(0, .lf (.im true (.sl 1 (a.map rS)))), (2, .lf (.im true (.sl 1 (b.map rS)))), (24, .int ((a.length : Nat) : Int)), (26, .int ((i : Nat) : Int)), (28, .bool (decide ((((i : Nat) : Int) : Int) < ((a.length : Nat) : Int))))] [] AllP.nil (by kernel_rfl) ?_
    refine xw_seq ?_
    refine xw_cond (decide ((((i : Nat) : Int) : Int) < ((a.length : Nat) : Int))) rfl (fun h2 => ?_) (fun h2 => ?_)
    · have h2 := of_dT h2
      refine xw_skip ?_
      refine xw_seq ?_
      refine xw_block ?_
      refine vx c [(0, .lf (.im true (.sl 1 (a.map rS)))), (2, .lf (.im true (.sl 1 (b.map rS)))), (10, .int ((i : Nat) : Int)), (24, .int ((a.length : Nat) : Int)), (26, .int ((i : Nat) : Int))] [] AllP.nil (by kernel_rfl) ?_
      obtain ⟨x1, hx1⟩ := get_lt (l := a) (i := i) (by omega)
      obtain ⟨x2, hx2⟩ := get_lt (l := b) (i := i) (by omega)
      refine vx c [(0, .lf (.im true (.sl 1 (a.map rS)))), (2, .lf (.im true (.sl 1 (b.map rS)))), (24, .int ((a.length : Nat) : Int)), (26, .int ((i : Nat) : Int)), (48, .bool (!(x1.toList == x2.toList)))] [(2, .row (rS x1)), (6, .row (rS x2))] (a2 (ix (f := rS) (l := a) (i := i) hx1) (a2 (ix (f := rS) (l := b) (i := i) hx2) AllP.nil)) (by kernel_rfl) ?_
      refine xw_cond (!(x1.toList == x2.toList)) rfl (fun h3 => ?_) (fun h3 => ?_)
      · have h3 : (x1.toList == x2.toList) = false := of_nT h3
        refine vx c [(8, .bool false)] [] AllP.nil (by kernel_rfl) ?_
        exact xret [.lf (.im true (.bool false))] rfl (by kernel_rfl) (retF (ne_at hx1 hx2 (by intro e; subst e; simp at h3)))
      · have h3 : (x1.toList == x2.toList) = true := of_nF h3
        refine xw_skip ?_
        exact vxe c [(0, .lf (.im true (.sl 1 (a.map rS)))), (2, .lf (.im true (.sl 1 (b.map rS)))), (24, .int ((a.length : Nat) : Int)), (26, .int ((i + 1 : Nat) : Int))] [(0, .slot (.int ((i + 1 : Nat) : Int)))] (a2 (wI (a := ((i : Nat) : Int) + 1) (b := ((i + 1 : Nat) : Int)) (by omega) (by omega) (by omega)) AllP.nil) (by kernel_rfl) (⟨_, by omega, (i + 1), rfl, rfl, ⟨by omega, (take_succ_eq hx1 hx2).2 ⟨hP1.2, bytes_eq.1 (by simpa using h3)⟩⟩⟩)
    · have h2 := of_dF h2
      refine xw_exit ?_
      refine vx c [(8, .bool true)] [] AllP.nil (by kernel_rfl) ?_
      exact xret [.lf (.im true (.bool true))] rfl (by kernel_rfl) (retT (all_take hl (by omega) hP1.2))
set_option maxRecDepth 100000 in
theorem spec_l13Func_v (a b : Fn) (hok : a.ok) :
    CallV Try.prog 16 [.agg [.im true (.int .i64 a.seen), .im true (.sl 1 (a.args.map rS)), .im true (.sl 1 (a.rets.map rS)), .im true (.sl 1 (a.locals.map rS)), .im true (.sl 1 (a.takes.map rI)), .im true (.sl 3 (a.code.map rIns))], .agg [.im true (.int .i64 b.seen), .im true (.sl 1 (b.args.map rS)), .im true (.sl 1 (b.rets.map rS)), .im true (.sl 1 (b.locals.map rS)), .im true (.sl 1 (b.takes.map rI)), .im true (.sl 3 (b.code.map rIns))]] (· = .bool (B (FnOn a b))) := by
  refine CallX (fn := Try.f16) TTok mixed Try.func16 rfl rfl rfl rfl rfl fun E c => ?_
  have b1 := hok.1.1
  have b2 := hok.2.1.1
  refine vx c [(4, .lf (.ptr 2 0)), (5, .cell 2 [.im true (.int .i64 a.seen), .im true (.sl 1 (a.args.map rS)), .im true (.sl 1 (a.rets.map rS)), .im true (.sl 1 (a.locals.map rS)), .im true (.sl 1 (a.takes.map rI)), .im true (.sl 3 (a.code.map rIns))]), (6, .lf (.ptr 3 0)), (7, .cell 3 [.im true (.int .i64 b.seen), .im true (.sl 1 (b.args.map rS)), .im true (.sl 1 (b.rets.map rS)), .im true (.sl 1 (b.locals.map rS)), .im true (.sl 1 (b.takes.map rI)), .im true (.sl 3 (b.code.map rIns))])] [] AllP.nil (by kernel_rfl) ?_
  refine xw_seq ?_
  refine vx c [(4, .lf (.ptr 2 0)), (5, .cell 2 [.im true (.int .i64 a.seen), .im true (.sl 1 (a.args.map rS)), .im true (.sl 1 (a.rets.map rS)), .im true (.sl 1 (a.locals.map rS)), .im true (.sl 1 (a.takes.map rI)), .im true (.sl 3 (a.code.map rIns))]), (6, .lf (.ptr 3 0)), (7, .cell 3 [.im true (.int .i64 b.seen), .im true (.sl 1 (b.args.map rS)), .im true (.sl 1 (b.rets.map rS)), .im true (.sl 1 (b.locals.map rS)), .im true (.sl 1 (b.takes.map rI)), .im true (.sl 3 (b.code.map rIns))]), (14, .bool (decide ((a.seen : Int) = 0)))] [] AllP.nil (by kernel_rfl) ?_
  refine xw_cond (decide ((a.seen : Int) = 0)) rfl (fun h1 => ?_) (fun h1 => ?_)
  · have h1 := of_dT h1
    refine vx c [(8, .bool true)] [] AllP.nil (by kernel_rfl) ?_
    exact xret [.lf (.im true (.bool true))] rfl (by kernel_rfl) (retBT (.inl h1))
  · have h1 := of_dF h1
    refine xw_skip ?_
    refine vxj c [(8, .bool ((decide ((b.seen : Int) ≥ a.seen)) && ((decide (a.args = b.args)) && (decide (a.rets = b.rets)))))] (by
        rcases Bool.eq_false_or_eq_true (decide ((b.seen : Int) ≥ a.seen)) with g1 | g1
        · rcases Bool.eq_false_or_eq_true (decide (a.args = b.args)) with g2 | g2
          · exact ⟨[(4, .slot (.bool true)), (10, .ret (.bool (decide (a.args = b.args)))), (11, .slot (.bool true)), (17, .ret (.bool (decide (a.rets = b.rets)))), (19, .slot (.bool ((decide ((b.seen : Int) ≥ a.seen)) && ((decide (a.args = b.args)) && (decide (a.rets = b.rets))))))], _, (a2 (kB g1) (a2 (cl tx15 (spec_l13Texts_v a.args b.args (by assumption))) (a2 (kB g2) (a2 (cl tx15 (spec_l13Texts_v a.rets b.rets (by assumption))) (a2 (kB (b := decide (a.rets = b.rets)) (c := ((decide ((b.seen : Int) ≥ a.seen)) && ((decide (a.args = b.args)) && (decide (a.rets = b.rets))))) (by first | (simp only [g1, g2, Bool.true_or, Bool.false_or, Bool.or_false, Bool.or_true, Bool.true_and, Bool.false_and, Bool.and_true, Bool.and_false, Bool.not_true, Bool.not_false, cond_true, cond_false]; done) | (simp [g1, g2]; done))) AllP.nil))))), by kernel_rfl⟩
          · exact ⟨[(4, .slot (.bool true)), (10, .ret (.bool (decide (a.args = b.args)))), (11, .slot (.bool false)), (19, .slot (.bool ((decide ((b.seen : Int) ≥ a.seen)) && ((decide (a.args = b.args)) && (decide (a.rets = b.rets))))))], _, (a2 (kB g1) (a2 (cl tx15 (spec_l13Texts_v a.args b.args (by assumption))) (a2 (kB g2) (a2 (kB (b := false) (c := ((decide ((b.seen : Int) ≥ a.seen)) && ((decide (a.args = b.args)) && (decide (a.rets = b.rets))))) (by first | (simp only [g1, g2, Bool.true_or, Bool.false_or, Bool.or_false, Bool.or_true, Bool.true_and, Bool.false_and, Bool.and_true, Bool.and_false, Bool.not_true, Bool.not_false, cond_true, cond_false]; done) | (simp [g1, g2]; done))) AllP.nil)))), by kernel_rfl⟩
        · exact ⟨[(4, .slot (.bool false)), (19, .slot (.bool ((decide ((b.seen : Int) ≥ a.seen)) && ((decide (a.args = b.args)) && (decide (a.rets = b.rets))))))], _, (a2 (kB g1) (a2 (kB (b := false) (c := ((decide ((b.seen : Int) ≥ a.seen)) && ((decide (a.args = b.args)) && (decide (a.rets = b.rets))))) (by first | (simp only [g1, Bool.true_or, Bool.false_or, Bool.or_false, Bool.or_true, Bool.true_and, Bool.false_and, Bool.and_true, Bool.and_false, Bool.not_true, Bool.not_false, cond_true, cond_false]; done) | (simp [g1]; done))) AllP.nil)), by kernel_rfl⟩) ?_
    exact xret [.lf (.im true (.bool ((decide ((b.seen : Int) ≥ a.seen)) && ((decide (a.args = b.args)) && (decide (a.rets = b.rets))))))] rfl (by kernel_rfl) (retBB (by simp [FnOn, h1]))
set_option maxRecDepth 100000 in
theorem spec_l4In_v (a : List Int) (ha : a.length ≤ 140737488355328) (v : Int) :
    CallV Try.prog 17 [.lf (.im true (.sl 1 (a.map rI))), .lf (.im true (.int .i64 v))] (· = .bool (B (v ∈ a))) := by
  refine CallX (fn := Try.f17) TTok mixed Try.func17 rfl rfl rfl rfl rfl fun E c => ?_
  refine vx c [(0, .lf (.im true (.sl 1 (a.map rI)))), (2, .int v)] [] AllP.nil (by kernel_rfl) ?_
  refine xw_seq ?_
  refine vx c [(0, .lf (.im true (.sl 1 (a.map rI)))), (2, .int v), (10, .int 0)] [] AllP.nil (by kernel_rfl) ?_
  refine xw_block ?_
  refine xw_loop (fun n L => ∃ (i : Nat), L = [(0, .lf (.im true (.sl 1 (a.map rI)))), (2, .int v), (10, .int ((i : Nat) : Int))] ∧ n = a.length - i ∧ (i ≤ a.length ∧ ∀ y ∈ a.take i, y ≠ v)) _ ⟨0, rfl, rfl, ⟨by omega, by simp⟩⟩ ?_
  rintro n L ⟨i, rfl, rfl, hP1⟩
  refine xw_seq ?_
  refine vx c [(0, .lf (.im true (.sl 1 (a.map rI)))), (2, .int v), (10, .int ((i : Nat) : Int)), (18, .bool (decide ((((i : Nat) : Int) : Int) < ((a.length : Nat) : Int))))] [(2, .slot (.int ((a.length : Nat) : Int)))] (a2 (ln (l := a) (f := rI)) AllP.nil) (by kernel_rfl) ?_
  refine xw_cond (decide ((((i : Nat) : Int) : Int) < ((a.length : Nat) : Int))) rfl (fun h1 => ?_) (fun h1 => ?_)
  · have h1 := of_dT h1
    refine xw_skip ?_
    refine xw_seq ?_
    refine xw_block ?_
    obtain ⟨x1, hx1⟩ := get_lt (l := a) (i := i) (by omega)
    refine vx c [(0, .lf (.im true (.sl 1 (a.map rI)))), (2, .int v), (10, .int ((i : Nat) : Int)), (34, .bool (decide ((x1 : Int) = v)))] [(2, .row (rI x1))] (a2 (ix (f := rI) (l := a) (i := i) hx1) AllP.nil) (by kernel_rfl) ?_
    refine xw_cond (decide ((x1 : Int) = v)) rfl (fun h2 => ?_) (fun h2 => ?_)
    · have h2 := of_dT h2
      refine vx c [(8, .bool true)] [] AllP.nil (by kernel_rfl) ?_
      exact xret [.lf (.im true (.bool true))] rfl (by kernel_rfl) (retBT (by rw [← h2]; exact List.mem_of_getElem? hx1))
    · have h2 := of_dF h2
      refine xw_skip ?_
      exact vxe c [(0, .lf (.im true (.sl 1 (a.map rI)))), (2, .int v), (10, .int ((i + 1 : Nat) : Int))] [(1, .slot (.int ((i + 1 : Nat) : Int)))] (a2 (wI (a := ((i : Nat) : Int) + 1) (b := ((i + 1 : Nat) : Int)) (by omega) (by omega) (by omega)) AllP.nil) (by kernel_rfl) (⟨_, by omega, (i + 1), rfl, rfl, ⟨by omega, mem_succ hP1.2 hx1 h2⟩⟩)
  · have h1 := of_dF h1
    refine xw_exit ?_
    refine vx c [(8, .bool false)] [] AllP.nil (by kernel_rfl) ?_
    exact xret [.lf (.im true (.bool false))] rfl (by kernel_rfl) (retBF (fun hm => mem_all hP1.2 (by omega) v hm rfl))
set_option maxRecDepth 100000 in
theorem slices_Index___int_int__v (a : List Int) (ha : a.length ≤ 140737488355328) (v : Int) :
    CallV Try.prog 34 [.lf (.im true (.sl 1 (a.map rI))), .lf (.im true (.int .i64 v))] (· = .int (indexOf a v)) := by
  refine CallX (fn := Try.f34) TTok mixed Try.func34 rfl rfl rfl rfl rfl fun E c => ?_
  refine vx c [(0, .lf (.im true (.sl 1 (a.map rI)))), (2, .int v)] [] AllP.nil (by kernel_rfl) ?_
  refine xw_seq ?_
  refine vx c [(0, .lf (.im true (.sl 1 (a.map rI)))), (2, .int v), (14, .int ((a.length : Nat) : Int)), (16, .int 0)] [(1, .slot (.int ((a.length : Nat) : Int)))] (a2 (ln (l := a) (f := rI)) AllP.nil) (by kernel_rfl) ?_
  refine xw_block ?_
  refine xw_loop (fun n L => ∃ (i : Nat), L = [(0, .lf (.im true (.sl 1 (a.map rI)))), (2, .int v), (14, .int ((a.length : Nat) : Int)), (16, .int ((i : Nat) : Int))] ∧ n = a.length - i ∧ (i ≤ a.length ∧ ∀ y ∈ a.take i, y ≠ v)) _ ⟨0, rfl, rfl, ⟨by omega, by simp⟩⟩ ?_
  rintro n L ⟨i, rfl, rfl, hP1⟩
  refine vx c [(0, .lf (.im true (.sl 1 (a.map rI)))), (2, .int v), (14, .int ((a.length : Nat) : Int)), (16, .int ((i : Nat) : Int)), (18, .bool (decide ((((i : Nat) : Int) : Int) < ((a.length : Nat) : Int))))] [] AllP.nil (by kernel_rfl) ?_
  refine xw_seq ?_
  refine xw_cond (decide ((((i : Nat) : Int) : Int) < ((a.length : Nat) : Int))) rfl (fun h1 => ?_) (fun h1 => ?_)
  · have h1 := of_dT h1
    refine xw_skip ?_
    refine xw_seq ?_
    refine xw_block ?_
    refine vx c [(0, .lf (.im true (.sl 1 (a.map rI)))), (2, .int v), (10, .int ((i : Nat) : Int)), (14, .int ((a.length : Nat) : Int)), (16, .int ((i : Nat) : Int))] [] AllP.nil (by kernel_rfl) ?_
    obtain ⟨x1, hx1⟩ := get_lt (l := a) (i := i) (by omega)
    refine vx c [(0, .lf (.im true (.sl 1 (a.map rI)))), (2, .int v), (10, .int ((i : Nat) : Int)), (14, .int ((a.length : Nat) : Int)), (16, .int ((i : Nat) : Int)), (32, .bool (decide ((v : Int) = x1)))] [(3, .row (rI x1))] (a2 (ix (f := rI) (l := a) (i := i) hx1) AllP.nil) (by kernel_rfl) ?_
    refine xw_cond (decide ((v : Int) = x1)) rfl (fun h2 => ?_) (fun h2 => ?_)
    · have h2 := of_dT h2
      refine vx c [(8, .int ((i : Nat) : Int))] [] AllP.nil (by kernel_rfl) ?_
      exact xret [.lf (.im true (.int .i64 ((i : Nat) : Int)))] rfl (by kernel_rfl) (retI (indexOf_at (by rw [h2]; exact hx1) hP1.2).symm)
    · have h2 := of_dF h2
      refine xw_skip ?_
      exact vxe c [(0, .lf (.im true (.sl 1 (a.map rI)))), (2, .int v), (14, .int ((a.length : Nat) : Int)), (16, .int ((i + 1 : Nat) : Int))] [(0, .slot (.int ((i + 1 : Nat) : Int)))] (a2 (wI (a := ((i : Nat) : Int) + 1) (b := ((i + 1 : Nat) : Int)) (by omega) (by omega) (by omega)) AllP.nil) (by kernel_rfl) (⟨_, by omega, (i + 1), rfl, rfl, ⟨by omega, mem_succ hP1.2 hx1 (fun e => h2 e.symm)⟩⟩)
  · have h1 := of_dF h1
    refine xw_exit ?_
    refine vx c [(8, .int (-1))] [] AllP.nil (by kernel_rfl) ?_
    exact xret [.lf (.im true (.int .i64 (-1)))] rfl (by kernel_rfl) (retI (indexOf_no (mem_all hP1.2 (by omega))).symm)
set_option maxRecDepth 100000 in
theorem slices_Contains___int_int__v (a : List Int) (ha : a.length ≤ 140737488355328) (v : Int) :
    CallV Try.prog 22 [.lf (.im true (.sl 1 (a.map rI))), .lf (.im true (.int .i64 v))] (· = .bool (B (v ∈ a))) := by
  refine CallX (fn := Try.f22) TTok mixed Try.func22 rfl rfl rfl rfl rfl fun E c => ?_
  refine vx c [(0, .lf (.im true (.sl 1 (a.map rI)))), (2, .int v)] [] AllP.nil (by kernel_rfl) ?_
  refine vx c [(8, .bool (decide ((indexOf a v : Int) ≥ 0)))] [(2, .ret (.int (indexOf a v)))] (a2 (cl tx34 (slices_Index___int_int__v a (by assumption) v)) AllP.nil) (by kernel_rfl) ?_
  exact xret [.lf (.im true (.bool (decide ((indexOf a v : Int) ≥ 0))))] rfl (by kernel_rfl) (retBB indexOf_geq)
set_option maxRecDepth 100000 in
theorem spec_ModuleGoesOn_v (a b : Mod) (hoa : a.ok) (hob : b.ok) :
    CallV Try.prog 6 [.agg [.im true (.sl 2 (a.records.map rRec)), .im true (.sl 6 (a.funcs.map rFn)), .im true (.sl 1 (a.friends.map rI))], .agg [.im true (.sl 2 (b.records.map rRec)), .im true (.sl 6 (b.funcs.map rFn)), .im true (.sl 1 (b.friends.map rI))]] (· = .bool (B (GoesOn a b))) := by
  refine CallX (fn := Try.f6) TTok mixed Try.func6 rfl rfl rfl rfl rfl fun E c => ?_
  have b1 := hoa.1.1
  have b2 := hoa.2.1.1
  have b3 := hoa.2.2
  have c1 := hob.1.1
  have c2 := hob.2.1.1
  have c3 := hob.2.2
  refine vx c [(4, .lf (.ptr 2 0)), (5, .cell 2 [.im true (.sl 2 (a.records.map rRec)), .im true (.sl 6 (a.funcs.map rFn)), .im true (.sl 1 (a.friends.map rI))]), (6, .lf (.ptr 3 0)), (7, .cell 3 [.im true (.sl 2 (b.records.map rRec)), .im true (.sl 6 (b.funcs.map rFn)), .im true (.sl 1 (b.friends.map rI))])] [] AllP.nil (by kernel_rfl) ?_
  refine xw_seq ?_
  refine vxj c [(4, .lf (.ptr 2 0)), (5, .cell 2 [.im true (.sl 2 (a.records.map rRec)), .im true (.sl 6 (a.funcs.map rFn)), .im true (.sl 1 (a.friends.map rI))]), (6, .lf (.ptr 3 0)), (7, .cell 3 [.im true (.sl 2 (b.records.map rRec)), .im true (.sl 6 (b.funcs.map rFn)), .im true (.sl 1 (b.friends.map rI))]), (46, .bool ((decide ((((b.records.length : Nat) : Int) : Int) < ((a.records.length : Nat) : Int))) || (decide ((((b.funcs.length : Nat) : Int) : Int) < ((a.funcs.length : Nat) : Int)))))] (by
      rcases Bool.eq_false_or_eq_true (decide ((((b.records.length : Nat) : Int) : Int) < ((a.records.length : Nat) : Int))) with g1 | g1
      · exact ⟨[(2, .slot (.int ((b.records.length : Nat) : Int))), (5, .slot (.int ((a.records.length : Nat) : Int))), (6, .slot (.bool true)), (15, .slot (.bool ((decide ((((b.records.length : Nat) : Int) : Int) < ((a.records.length : Nat) : Int))) || (decide ((((b.funcs.length : Nat) : Int) : Int) < ((a.funcs.length : Nat) : Int))))))], _, (a2 (ln (l := b.records) (f := rRec)) (a2 (ln (l := a.records) (f := rRec)) (a2 (kB g1) (a2 (kB (b := true) (c := ((decide ((((b.records.length : Nat) : Int) : Int) < ((a.records.length : Nat) : Int))) || (decide ((((b.funcs.length : Nat) : Int) : Int) < ((a.funcs.length : Nat) : Int))))) (by first | (simp only [g1, Bool.true_or, Bool.false_or, Bool.or_false, Bool.or_true, Bool.true_and, Bool.false_and, Bool.and_true, Bool.and_false, Bool.not_true, Bool.not_false, cond_true, cond_false]; done) | (simp [g1]; done))) AllP.nil)))), by kernel_rfl⟩
      · exact ⟨[(2, .slot (.int ((b.records.length : Nat) : Int))), (5, .slot (.int ((a.records.length : Nat) : Int))), (6, .slot (.bool false)), (10, .slot (.int ((b.funcs.length : Nat) : Int))), (13, .slot (.int ((a.funcs.length : Nat) : Int))), (15, .slot (.bool ((decide ((((b.records.length : Nat) : Int) : Int) < ((a.records.length : Nat) : Int))) || (decide ((((b.funcs.length : Nat) : Int) : Int) < ((a.funcs.length : Nat) : Int))))))], _, (a2 (ln (l := b.records) (f := rRec)) (a2 (ln (l := a.records) (f := rRec)) (a2 (kB g1) (a2 (ln (l := b.funcs) (f := rFn)) (a2 (ln (l := a.funcs) (f := rFn)) (a2 (kB (b := decide ((((b.funcs.length : Nat) : Int) : Int) < ((a.funcs.length : Nat) : Int))) (c := ((decide ((((b.records.length : Nat) : Int) : Int) < ((a.records.length : Nat) : Int))) || (decide ((((b.funcs.length : Nat) : Int) : Int) < ((a.funcs.length : Nat) : Int))))) (by first | (simp only [g1, Bool.true_or, Bool.false_or, Bool.or_false, Bool.or_true, Bool.true_and, Bool.false_and, Bool.and_true, Bool.and_false, Bool.not_true, Bool.not_false, cond_true, cond_false]; done) | (simp [g1]; done))) AllP.nil)))))), by kernel_rfl⟩) ?_
  refine xw_cond ((decide ((((b.records.length : Nat) : Int) : Int) < ((a.records.length : Nat) : Int))) || (decide ((((b.funcs.length : Nat) : Int) : Int) < ((a.funcs.length : Nat) : Int)))) rfl (fun h1 => ?_) (fun h1 => ?_)
  · have h1 := h1
    refine vx c [(8, .bool false)] [] AllP.nil (by kernel_rfl) ?_
    exact xret [.lf (.im true (.bool false))] rfl (by kernel_rfl) (retBF (fun hg => by have := hg.recs; have := hg.funcs; simp at h1; omega))
  · have h1 := h1
    have hlen : a.records.length ≤ b.records.length ∧ a.funcs.length ≤ b.funcs.length := by simp at h1; omega
    refine xw_skip ?_
    refine xw_seq ?_
    refine vx c [(4, .lf (.ptr 2 0)), (5, .cell 2 [.im true (.sl 2 (a.records.map rRec)), .im true (.sl 6 (a.funcs.map rFn)), .im true (.sl 1 (a.friends.map rI))]), (6, .lf (.ptr 3 0)), (7, .cell 3 [.im true (.sl 2 (b.records.map rRec)), .im true (.sl 6 (b.funcs.map rFn)), .im true (.sl 1 (b.friends.map rI))]), (10, .int 0)] [] AllP.nil (by kernel_rfl) ?_
    refine xw_block ?_
    refine xw_loop (fun n L => ∃ (i : Nat), L = [(4, .lf (.ptr 2 0)), (5, .cell 2 [.im true (.sl 2 (a.records.map rRec)), .im true (.sl 6 (a.funcs.map rFn)), .im true (.sl 1 (a.friends.map rI))]), (6, .lf (.ptr 3 0)), (7, .cell 3 [.im true (.sl 2 (b.records.map rRec)), .im true (.sl 6 (b.funcs.map rFn)), .im true (.sl 1 (b.friends.map rI))]), (10, .int ((i : Nat) : Int))] ∧ n = a.records.length - i ∧ (i ≤ a.records.length ∧ ∀ (j : Nat) r s, j < i → a.records[j]? = some r → b.records[j]? = some s → r = s)) _ ⟨0, rfl, rfl, ⟨by omega, by omega⟩⟩ ?_
    rintro n L ⟨i, rfl, rfl, hP1⟩
    refine xw_seq ?_
    refine vx c [(4, .lf (.ptr 2 0)), (5, .cell 2 [.im true (.sl 2 (a.records.map rRec)), .im true (.sl 6 (a.funcs.map rFn)), .im true (.sl 1 (a.friends.map rI))]), (6, .lf (.ptr 3 0)), (7, .cell 3 [.im true (.sl 2 (b.records.map rRec)), .im true (.sl 6 (b.funcs.map rFn)), .im true (.sl 1 (b.friends.map rI))]), (10, .int ((i : Nat) : Int)), (56, .bool (decide ((((i : Nat) : Int) : Int) < ((a.records.length : Nat) : Int))))] [(3, .slot (.int ((a.records.length : Nat) : Int)))] (a2 (ln (l := a.records) (f := rRec)) AllP.nil) (by kernel_rfl) ?_
    refine xw_cond (decide ((((i : Nat) : Int) : Int) < ((a.records.length : Nat) : Int))) rfl (fun h2 => ?_) (fun h2 => ?_)
    · have h2 := of_dT h2
      refine xw_skip ?_
      refine xw_seq ?_
      refine xw_block ?_
      obtain ⟨x1, hx1⟩ := get_lt (l := a.records) (i := i) (by omega)
      obtain ⟨x2, hx2⟩ := get_lt (l := b.records) (i := i) (by omega)
      refine vxj c [(4, .lf (.ptr 2 0)), (5, .cell 2 [.im true (.sl 2 (a.records.map rRec)), .im true (.sl 6 (a.funcs.map rFn)), .im true (.sl 1 (a.friends.map rI))]), (6, .lf (.ptr 3 0)), (7, .cell 3 [.im true (.sl 2 (b.records.map rRec)), .im true (.sl 6 (b.funcs.map rFn)), .im true (.sl 1 (b.friends.map rI))]), (10, .int ((i : Nat) : Int)), (118, .bool ((decide ((x1.able : Int) ≠ x2.able)) || (!(decide (x1.fields = x2.fields)))))] (by
          rcases Bool.eq_false_or_eq_true (decide ((x1.able : Int) ≠ x2.able)) with g2 | g2
          · exact ⟨[(3, .row (rRec x1)), (9, .row (rRec x2)), (12, .slot (.bool true)), (28, .slot (.bool ((decide ((x1.able : Int) ≠ x2.able)) || (!(decide (x1.fields = x2.fields))))))], _, (a2 (ix (f := rRec) (l := a.records) (i := i) hx1) (a2 (ix (f := rRec) (l := b.records) (i := i) hx2) (a2 (kB g2) (a2 (kB (b := true) (c := ((decide ((x1.able : Int) ≠ x2.able)) || (!(decide (x1.fields = x2.fields))))) (by first | (simp only [g2, Bool.true_or, Bool.false_or, Bool.or_false, Bool.or_true, Bool.true_and, Bool.false_and, Bool.and_true, Bool.and_false, Bool.not_true, Bool.not_false, cond_true, cond_false]; done) | (simp [g2]; done))) AllP.nil)))), by kernel_rfl⟩
          · exact ⟨[(3, .row (rRec x1)), (9, .row (rRec x2)), (12, .slot (.bool false)), (17, .row (rRec x1)), (23, .row (rRec x2)), (26, .ret (.bool (decide (x1.fields = x2.fields)))), (28, .slot (.bool ((decide ((x1.able : Int) ≠ x2.able)) || (!(decide (x1.fields = x2.fields))))))], _, (a2 (ix (f := rRec) (l := a.records) (i := i) hx1) (a2 (ix (f := rRec) (l := b.records) (i := i) hx2) (a2 (kB g2) (a2 (ix (f := rRec) (l := a.records) (i := i) hx1) (a2 (ix (f := rRec) (l := b.records) (i := i) hx2) (a2 (cl tx15 (spec_l13Texts_v x1.fields x2.fields (by exact (hoa.1.2 _ (List.mem_of_getElem? hx1)).1))) (a2 (kB (b := !(decide (x1.fields = x2.fields))) (c := ((decide ((x1.able : Int) ≠ x2.able)) || (!(decide (x1.fields = x2.fields))))) (by first | (simp only [g2, Bool.true_or, Bool.false_or, Bool.or_false, Bool.or_true, Bool.true_and, Bool.false_and, Bool.and_true, Bool.and_false, Bool.not_true, Bool.not_false, cond_true, cond_false]; done) | (simp [g2]; done))) AllP.nil))))))), by kernel_rfl⟩) ?_
      refine xw_cond ((decide ((x1.able : Int) ≠ x2.able)) || (!(decide (x1.fields = x2.fields)))) rfl (fun h3 => ?_) (fun h3 => ?_)
      · have h3 := h3
        refine vx c [(8, .bool false)] [] AllP.nil (by kernel_rfl) ?_
        exact xret [.lf (.im true (.bool false))] rfl (by kernel_rfl) (retBF (fun hg => by have := hg.recEq _ _ _ hx1 hx2; subst this; simp at h3))
      · have h3 := h3
        refine xw_skip ?_
        exact vxe c [(4, .lf (.ptr 2 0)), (5, .cell 2 [.im true (.sl 2 (a.records.map rRec)), .im true (.sl 6 (a.funcs.map rFn)), .im true (.sl 1 (a.friends.map rI))]), (6, .lf (.ptr 3 0)), (7, .cell 3 [.im true (.sl 2 (b.records.map rRec)), .im true (.sl 6 (b.funcs.map rFn)), .im true (.sl 1 (b.friends.map rI))]), (10, .int ((i + 1 : Nat) : Int))] [(1, .slot (.int ((i + 1 : Nat) : Int)))] (a2 (wI (a := ((i : Nat) : Int) + 1) (b := ((i + 1 : Nat) : Int)) (by omega) (by omega) (by omega)) AllP.nil) (by kernel_rfl) (⟨_, by omega, (i + 1), rfl, rfl, ⟨by omega, upto_succ hP1.2 hx1 hx2 (by simp at h3; exact rec_eq h3.1 h3.2)⟩⟩)
    · have h2 := of_dF h2
      refine xw_exit ?_
      refine xw_seq ?_
      refine vx c [(4, .lf (.ptr 2 0)), (5, .cell 2 [.im true (.sl 2 (a.records.map rRec)), .im true (.sl 6 (a.funcs.map rFn)), .im true (.sl 1 (a.friends.map rI))]), (6, .lf (.ptr 3 0)), (7, .cell 3 [.im true (.sl 2 (b.records.map rRec)), .im true (.sl 6 (b.funcs.map rFn)), .im true (.sl 1 (b.friends.map rI))]), (12, .int 0)] [] AllP.nil (by kernel_rfl) ?_
      refine xw_block ?_
      refine xw_loop (fun n L => ∃ (k : Nat), L = [(4, .lf (.ptr 2 0)), (5, .cell 2 [.im true (.sl 2 (a.records.map rRec)), .im true (.sl 6 (a.funcs.map rFn)), .im true (.sl 1 (a.friends.map rI))]), (6, .lf (.ptr 3 0)), (7, .cell 3 [.im true (.sl 2 (b.records.map rRec)), .im true (.sl 6 (b.funcs.map rFn)), .im true (.sl 1 (b.friends.map rI))]), (12, .int ((k : Nat) : Int))] ∧ n = a.funcs.length - k ∧ (k ≤ a.funcs.length ∧ ∀ (j : Nat) r s, j < k → a.funcs[j]? = some r → b.funcs[j]? = some s → FnOn r s)) _ ⟨0, rfl, rfl, ⟨by omega, by omega⟩⟩ ?_
      rintro n L ⟨k, rfl, rfl, hP2⟩
      refine xw_seq ?_
      refine vx c [(4, .lf (.ptr 2 0)), (5, .cell 2 [.im true (.sl 2 (a.records.map rRec)), .im true (.sl 6 (a.funcs.map rFn)), .im true (.sl 1 (a.friends.map rI))]), (6, .lf (.ptr 3 0)), (7, .cell 3 [.im true (.sl 2 (b.records.map rRec)), .im true (.sl 6 (b.funcs.map rFn)), .im true (.sl 1 (b.friends.map rI))]), (12, .int ((k : Nat) : Int)), (128, .bool (decide ((((k : Nat) : Int) : Int) < ((a.funcs.length : Nat) : Int))))] [(3, .slot (.int ((a.funcs.length : Nat) : Int)))] (a2 (ln (l := a.funcs) (f := rFn)) AllP.nil) (by kernel_rfl) ?_
      refine xw_cond (decide ((((k : Nat) : Int) : Int) < ((a.funcs.length : Nat) : Int))) rfl (fun h4 => ?_) (fun h4 => ?_)
      · have h4 := of_dT h4
        refine xw_skip ?_
        refine xw_seq ?_
        refine xw_block ?_
        obtain ⟨x3, hx3⟩ := get_lt (l := a.funcs) (i := k) (by omega)
        obtain ⟨x4, hx4⟩ := get_lt (l := b.funcs) (i := k) (by omega)
        refine vx c [(4, .lf (.ptr 2 0)), (5, .cell 2 [.im true (.sl 2 (a.records.map rRec)), .im true (.sl 6 (a.funcs.map rFn)), .im true (.sl 1 (a.friends.map rI))]), (6, .lf (.ptr 3 0)), (7, .cell 3 [.im true (.sl 2 (b.records.map rRec)), .im true (.sl 6 (b.funcs.map rFn)), .im true (.sl 1 (b.friends.map rI))]), (12, .int ((k : Nat) : Int)), (156, .bool (!(B (FnOn x3 x4))))] [(3, .row (rFn x3)), (8, .row (rFn x4)), (10, .ret (.bool (B (FnOn x3 x4))))] (a2 (ix (f := rFn) (l := a.funcs) (i := k) hx3) (a2 (ix (f := rFn) (l := b.funcs) (i := k) hx4) (a2 (cl tx16 (spec_l13Func_v x3 x4 (by exact hoa.2.1.2 _ (List.mem_of_getElem? hx3)))) AllP.nil))) (by kernel_rfl) ?_
        refine xw_cond (!(B (FnOn x3 x4))) rfl (fun h5 => ?_) (fun h5 => ?_)
        · have h5 : (B (FnOn x3 x4)) = false := of_nT h5
          refine vx c [(8, .bool false)] [] AllP.nil (by kernel_rfl) ?_
          exact xret [.lf (.im true (.bool false))] rfl (by kernel_rfl) (retBF (fun hg => by have := B_true (hg.fn _ _ _ hx3 hx4); rw [this] at h5; simp at h5))
        · have h5 : (B (FnOn x3 x4)) = true := of_nF h5
          refine xw_skip ?_
          exact vxe c [(4, .lf (.ptr 2 0)), (5, .cell 2 [.im true (.sl 2 (a.records.map rRec)), .im true (.sl 6 (a.funcs.map rFn)), .im true (.sl 1 (a.friends.map rI))]), (6, .lf (.ptr 3 0)), (7, .cell 3 [.im true (.sl 2 (b.records.map rRec)), .im true (.sl 6 (b.funcs.map rFn)), .im true (.sl 1 (b.friends.map rI))]), (12, .int ((k + 1 : Nat) : Int))] [(1, .slot (.int ((k + 1 : Nat) : Int)))] (a2 (wI (a := ((k : Nat) : Int) + 1) (b := ((k + 1 : Nat) : Int)) (by omega) (by omega) (by omega)) AllP.nil) (by kernel_rfl) (⟨_, by omega, (k + 1), rfl, rfl, ⟨by omega, upto_succ hP2.2 hx3 hx4 (B_iff.1 (by simpa using h5))⟩⟩)
      · have h4 := of_dF h4
        refine xw_exit ?_
        refine xw_seq ?_
        refine vx c [(4, .lf (.ptr 2 0)), (5, .cell 2 [.im true (.sl 2 (a.records.map rRec)), .im true (.sl 6 (a.funcs.map rFn)), .im true (.sl 1 (a.friends.map rI))]), (6, .lf (.ptr 3 0)), (7, .cell 3 [.im true (.sl 2 (b.records.map rRec)), .im true (.sl 6 (b.funcs.map rFn)), .im true (.sl 1 (b.friends.map rI))]), (14, .int 0)] [] AllP.nil (by kernel_rfl) ?_
        refine xw_block ?_
        refine xw_loop (fun n L => ∃ (q : Nat), L = [(4, .lf (.ptr 2 0)), (5, .cell 2 [.im true (.sl 2 (a.records.map rRec)), .im true (.sl 6 (a.funcs.map rFn)), .im true (.sl 1 (a.friends.map rI))]), (6, .lf (.ptr 3 0)), (7, .cell 3 [.im true (.sl 2 (b.records.map rRec)), .im true (.sl 6 (b.funcs.map rFn)), .im true (.sl 1 (b.friends.map rI))]), (14, .int ((q : Nat) : Int))] ∧ n = a.friends.length - q ∧ (q ≤ a.friends.length ∧ ∀ y ∈ a.friends.take q, y ∈ b.friends)) _ ⟨0, rfl, rfl, ⟨by omega, by simp⟩⟩ ?_
        rintro n L ⟨q, rfl, rfl, hP3⟩
        refine xw_seq ?_
        refine vx c [(4, .lf (.ptr 2 0)), (5, .cell 2 [.im true (.sl 2 (a.records.map rRec)), .im true (.sl 6 (a.funcs.map rFn)), .im true (.sl 1 (a.friends.map rI))]), (6, .lf (.ptr 3 0)), (7, .cell 3 [.im true (.sl 2 (b.records.map rRec)), .im true (.sl 6 (b.funcs.map rFn)), .im true (.sl 1 (b.friends.map rI))]), (14, .int ((q : Nat) : Int)), (166, .bool (decide ((((q : Nat) : Int) : Int) < ((a.friends.length : Nat) : Int))))] [(3, .slot (.int ((a.friends.length : Nat) : Int)))] (a2 (ln (l := a.friends) (f := rI)) AllP.nil) (by kernel_rfl) ?_
        refine xw_cond (decide ((((q : Nat) : Int) : Int) < ((a.friends.length : Nat) : Int))) rfl (fun h6 => ?_) (fun h6 => ?_)
        · have h6 := of_dT h6
          refine xw_skip ?_
          refine xw_seq ?_
          refine xw_block ?_
          obtain ⟨x5, hx5⟩ := get_lt (l := a.friends) (i := q) (by omega)
          refine vx c [(4, .lf (.ptr 2 0)), (5, .cell 2 [.im true (.sl 2 (a.records.map rRec)), .im true (.sl 6 (a.funcs.map rFn)), .im true (.sl 1 (a.friends.map rI))]), (6, .lf (.ptr 3 0)), (7, .cell 3 [.im true (.sl 2 (b.records.map rRec)), .im true (.sl 6 (b.funcs.map rFn)), .im true (.sl 1 (b.friends.map rI))]), (14, .int ((q : Nat) : Int)), (188, .bool (!(B (x5 ∈ b.friends))))] [(5, .row (rI x5)), (7, .ret (.bool (B (x5 ∈ b.friends))))] (a2 (ix (f := rI) (l := a.friends) (i := q) hx5) (a2 (cl tx17 (spec_l4In_v b.friends (by assumption) x5)) AllP.nil)) (by kernel_rfl) ?_
          refine xw_cond (!(B (x5 ∈ b.friends))) rfl (fun h7 => ?_) (fun h7 => ?_)
          · have h7 : (B (x5 ∈ b.friends)) = false := of_nT h7
            refine vx c [(8, .bool false)] [] AllP.nil (by kernel_rfl) ?_
            exact xret [.lf (.im true (.bool false))] rfl (by kernel_rfl) (retBF (fun hg => by have := B_true (hg.friend _ (List.mem_of_getElem? hx5)); rw [this] at h7; simp at h7))
          · have h7 : (B (x5 ∈ b.friends)) = true := of_nF h7
            refine xw_skip ?_
            exact vxe c [(4, .lf (.ptr 2 0)), (5, .cell 2 [.im true (.sl 2 (a.records.map rRec)), .im true (.sl 6 (a.funcs.map rFn)), .im true (.sl 1 (a.friends.map rI))]), (6, .lf (.ptr 3 0)), (7, .cell 3 [.im true (.sl 2 (b.records.map rRec)), .im true (.sl 6 (b.funcs.map rFn)), .im true (.sl 1 (b.friends.map rI))]), (14, .int ((q + 1 : Nat) : Int))] [(1, .slot (.int ((q + 1 : Nat) : Int)))] (a2 (wI (a := ((q : Nat) : Int) + 1) (b := ((q + 1 : Nat) : Int)) (by omega) (by omega) (by omega)) AllP.nil) (by kernel_rfl) (⟨_, by omega, (q + 1), rfl, rfl, ⟨by omega, mem_succ hP3.2 hx5 (B_iff.1 (by simpa using h7))⟩⟩)
        · have h6 := of_dF h6
          refine xw_exit ?_
          refine vx c [(8, .bool true)] [] AllP.nil (by kernel_rfl) ?_
          exact xret [.lf (.im true (.bool true))] rfl (by kernel_rfl) (retBT ⟨hlen.1, hlen.2, upto_all hP1.2 (by omega), upto_all hP2.2 (by omega), mem_all hP3.2 (by omega)⟩)
set_option maxRecDepth 100000 in
theorem impl_ModuleGoesOn_v (a b : Mod) (hoa : a.ok) (hob : b.ok) :
    CallV Try.prog 8 [.agg [.im true (.sl 2 (a.records.map rRec)), .im true (.sl 6 (a.funcs.map rFn)), .im true (.sl 1 (a.friends.map rI))], .agg [.im true (.sl 2 (b.records.map rRec)), .im true (.sl 6 (b.funcs.map rFn)), .im true (.sl 1 (b.friends.map rI))]] (· = .bool (B (GoesOn a b))) := by
  refine CallX (fn := Try.f8) TTok mixed Try.func8 rfl rfl rfl rfl rfl fun E c => ?_
  have b1 := hoa.1.1
  have b2 := hoa.2.1.1
  have b3 := hoa.2.2
  have c1 := hob.1.1
  have c2 := hob.2.1.1
  have c3 := hob.2.2
  refine vx c [(4, .lf (.ptr 2 0)), (5, .cell 2 [.im true (.sl 2 (a.records.map rRec)), .im true (.sl 6 (a.funcs.map rFn)), .im true (.sl 1 (a.friends.map rI))]), (6, .lf (.ptr 3 0)), (7, .cell 3 [.im true (.sl 2 (b.records.map rRec)), .im true (.sl 6 (b.funcs.map rFn)), .im true (.sl 1 (b.friends.map rI))])] [] AllP.nil (by kernel_rfl) ?_
  refine xw_seq ?_
  refine vxj c [(4, .lf (.ptr 2 0)), (5, .cell 2 [.im true (.sl 2 (a.records.map rRec)), .im true (.sl 6 (a.funcs.map rFn)), .im true (.sl 1 (a.friends.map rI))]), (6, .lf (.ptr 3 0)), (7, .cell 3 [.im true (.sl 2 (b.records.map rRec)), .im true (.sl 6 (b.funcs.map rFn)), .im true (.sl 1 (b.friends.map rI))]), (54, .bool ((decide ((((b.records.length : Nat) : Int) : Int) < ((a.records.length : Nat) : Int))) || (decide ((((b.funcs.length : Nat) : Int) : Int) < ((a.funcs.length : Nat) : Int)))))] (by
      rcases Bool.eq_false_or_eq_true (decide ((((b.records.length : Nat) : Int) : Int) < ((a.records.length : Nat) : Int))) with g1 | g1
      · exact ⟨[(2, .slot (.int ((b.records.length : Nat) : Int))), (5, .slot (.int ((a.records.length : Nat) : Int))), (6, .slot (.bool true)), (15, .slot (.bool ((decide ((((b.records.length : Nat) : Int) : Int) < ((a.records.length : Nat) : Int))) || (decide ((((b.funcs.length : Nat) : Int) : Int) < ((a.funcs.length : Nat) : Int))))))], _, (a2 (ln (l := b.records) (f := rRec)) (a2 (ln (l := a.records) (f := rRec)) (a2 (kB g1) (a2 (kB (b := true) (c := ((decide ((((b.records.length : Nat) : Int) : Int) < ((a.records.length : Nat) : Int))) || (decide ((((b.funcs.length : Nat) : Int) : Int) < ((a.funcs.length : Nat) : Int))))) (by first | (simp only [g1, Bool.true_or, Bool.false_or, Bool.or_false, Bool.or_true, Bool.true_and, Bool.false_and, Bool.and_true, Bool.and_false, Bool.not_true, Bool.not_false, cond_true, cond_false]; done) | (simp [g1]; done))) AllP.nil)))), by kernel_rfl⟩
      · exact ⟨[(2, .slot (.int ((b.records.length : Nat) : Int))), (5, .slot (.int ((a.records.length : Nat) : Int))), (6, .slot (.bool false)), (10, .slot (.int ((b.funcs.length : Nat) : Int))), (13, .slot (.int ((a.funcs.length : Nat) : Int))), (15, .slot (.bool ((decide ((((b.records.length : Nat) : Int) : Int) < ((a.records.length : Nat) : Int))) || (decide ((((b.funcs.length : Nat) : Int) : Int) < ((a.funcs.length : Nat) : Int))))))], _, (a2 (ln (l := b.records) (f := rRec)) (a2 (ln (l := a.records) (f := rRec)) (a2 (kB g1) (a2 (ln (l := b.funcs) (f := rFn)) (a2 (ln (l := a.funcs) (f := rFn)) (a2 (kB (b := decide ((((b.funcs.length : Nat) : Int) : Int) < ((a.funcs.length : Nat) : Int))) (c := ((decide ((((b.records.length : Nat) : Int) : Int) < ((a.records.length : Nat) : Int))) || (decide ((((b.funcs.length : Nat) : Int) : Int) < ((a.funcs.length : Nat) : Int))))) (by first | (simp only [g1, Bool.true_or, Bool.false_or, Bool.or_false, Bool.or_true, Bool.true_and, Bool.false_and, Bool.and_true, Bool.and_false, Bool.not_true, Bool.not_false, cond_true, cond_false]; done) | (simp [g1]; done))) AllP.nil)))))), by kernel_rfl⟩) ?_
  refine xw_cond ((decide ((((b.records.length : Nat) : Int) : Int) < ((a.records.length : Nat) : Int))) || (decide ((((b.funcs.length : Nat) : Int) : Int) < ((a.funcs.length : Nat) : Int)))) rfl (fun h1 => ?_) (fun h1 => ?_)
  · have h1 := h1
    refine vx c [(8, .bool false)] [] AllP.nil (by kernel_rfl) ?_
    exact xret [.lf (.im true (.bool false))] rfl (by kernel_rfl) (retBF (fun hg => by have := hg.recs; have := hg.funcs; simp at h1; omega))
  · have h1 := h1
    have hlen : a.records.length ≤ b.records.length ∧ a.funcs.length ≤ b.funcs.length := by simp at h1; omega
    refine xw_skip ?_
    refine xw_seq ?_
    refine vx c [(4, .lf (.ptr 2 0)), (5, .cell 2 [.im true (.sl 2 (a.records.map rRec)), .im true (.sl 6 (a.funcs.map rFn)), .im true (.sl 1 (a.friends.map rI))]), (6, .lf (.ptr 3 0)), (7, .cell 3 [.im true (.sl 2 (b.records.map rRec)), .im true (.sl 6 (b.funcs.map rFn)), .im true (.sl 1 (b.friends.map rI))]), (58, .lf (.im true (.sl 2 (a.records.map rRec)))), (60, .int ((a.records.length : Nat) : Int)), (62, .int 0)] [(2, .slot (.int ((a.records.length : Nat) : Int)))] (a2 (ln (l := a.records) (f := rRec)) AllP.nil) (by kernel_rfl) ?_
    refine xw_block ?_
    refine xw_loop (fun n L => ∃ (i : Nat), L = [(4, .lf (.ptr 2 0)), (5, .cell 2 [.im true (.sl 2 (a.records.map rRec)), .im true (.sl 6 (a.funcs.map rFn)), .im true (.sl 1 (a.friends.map rI))]), (6, .lf (.ptr 3 0)), (7, .cell 3 [.im true (.sl 2 (b.records.map rRec)), .im true (.sl 6 (b.funcs.map rFn)), .im true (.sl 1 (b.friends.map rI))]), (58, .lf (.im true (.sl 2 (a.records.map rRec)))), (60, .int ((a.records.length : Nat) : Int)), (62, .int ((i : Nat) : Int))] ∧ n = a.records.length - i ∧ (i ≤ a.records.length ∧ ∀ (j : Nat) r s, j < i → a.records[j]? = some r → b.records[j]? = some s → r = s)) _ ⟨0, rfl, rfl, ⟨by omega, by omega⟩⟩ ?_
    rintro n L ⟨i, rfl, rfl, hP1⟩
    refine vx c [(4, .lf (.ptr 2 0)), (5, .cell 2 [.im true (.sl 2 (a.records.map rRec)), .im true (.sl 6 (a.funcs.map rFn)), .im true (.sl 1 (a.friends.map rI))]), (6, .lf (.ptr 3 0)), (7, .cell 3 [.im true (.sl 2 (b.records.map rRec)), .im true (.sl 6 (b.funcs.map rFn)), .im true (.sl 1 (b.friends.map rI))]), (58, .lf (.im true (.sl 2 (a.records.map rRec)))), (60, .int ((a.records.length : Nat) : Int)), (62, .int ((i : Nat) : Int)), (64, .bool (decide ((((i : Nat) : Int) : Int) < ((a.records.length : Nat) : Int))))] [] AllP.nil (by kernel_rfl) ?_
    refine xw_seq ?_
    refine xw_cond (decide ((((i : Nat) : Int) : Int) < ((a.records.length : Nat) : Int))) rfl (fun h2 => ?_) (fun h2 => ?_)
    · have h2 := of_dT h2
      refine xw_skip ?_
      refine xw_seq ?_
      refine xw_block ?_
      obtain ⟨x1, hx1⟩ := get_lt (l := a.records) (i := i) (by omega)
      refine vx c [(4, .lf (.ptr 2 0)), (5, .cell 2 [.im true (.sl 2 (a.records.map rRec)), .im true (.sl 6 (a.funcs.map rFn)), .im true (.sl 1 (a.friends.map rI))]), (6, .lf (.ptr 3 0)), (7, .cell 3 [.im true (.sl 2 (b.records.map rRec)), .im true (.sl 6 (b.funcs.map rFn)), .im true (.sl 1 (b.friends.map rI))]), (10, .int ((i : Nat) : Int)), (12, .lf (.ptr 6 0)), (13, .cell 6 [.im true (.int .i64 x1.able), .im true (.sl 1 (x1.fields.map rS))]), (58, .lf (.im true (.sl 2 (a.records.map rRec)))), (60, .int ((a.records.length : Nat) : Int)), (62, .int ((i : Nat) : Int))] [(1, .row (rRec x1))] (a2 (ix (f := rRec) (l := a.records) (i := i) hx1) AllP.nil) (by kernel_rfl) ?_
      obtain ⟨x2, hx2⟩ := get_lt (l := b.records) (i := i) (by omega)
      refine vxj c [(4, .lf (.ptr 2 0)), (5, .cell 2 [.im true (.sl 2 (a.records.map rRec)), .im true (.sl 6 (a.funcs.map rFn)), .im true (.sl 1 (a.friends.map rI))]), (6, .lf (.ptr 3 0)), (7, .cell 3 [.im true (.sl 2 (b.records.map rRec)), .im true (.sl 6 (b.funcs.map rFn)), .im true (.sl 1 (b.friends.map rI))]), (58, .lf (.im true (.sl 2 (a.records.map rRec)))), (60, .int ((a.records.length : Nat) : Int)), (62, .int ((i : Nat) : Int)), (112, .bool ((decide ((x2.able : Int) ≠ x1.able)) || (!(decide (x2.fields = x1.fields)))))] (by
          rcases Bool.eq_false_or_eq_true (decide ((x2.able : Int) ≠ x1.able)) with g2 | g2
          · exact ⟨[(3, .row (rRec x2)), (8, .slot (.bool true)), (20, .slot (.bool ((decide ((x2.able : Int) ≠ x1.able)) || (!(decide (x2.fields = x1.fields))))))], _, (a2 (ix (f := rRec) (l := b.records) (i := i) hx2) (a2 (kB g2) (a2 (kB (b := true) (c := ((decide ((x2.able : Int) ≠ x1.able)) || (!(decide (x2.fields = x1.fields))))) (by first | (simp only [g2, Bool.true_or, Bool.false_or, Bool.or_false, Bool.or_true, Bool.true_and, Bool.false_and, Bool.and_true, Bool.and_false, Bool.not_true, Bool.not_false, cond_true, cond_false]; done) | (simp [g2]; done))) AllP.nil))), by kernel_rfl⟩
          · exact ⟨[(3, .row (rRec x2)), (8, .slot (.bool false)), (13, .row (rRec x2)), (18, .ret (.bool (decide (x2.fields = x1.fields)))), (20, .slot (.bool ((decide ((x2.able : Int) ≠ x1.able)) || (!(decide (x2.fields = x1.fields))))))], _, (a2 (ix (f := rRec) (l := b.records) (i := i) hx2) (a2 (kB g2) (a2 (ix (f := rRec) (l := b.records) (i := i) hx2) (a2 (cl tx21 (slices_Equal___string_string__v x2.fields x1.fields (by exact (hob.1.2 _ (List.mem_of_getElem? hx2)).1))) (a2 (kB (b := !(decide (x2.fields = x1.fields))) (c := ((decide ((x2.able : Int) ≠ x1.able)) || (!(decide (x2.fields = x1.fields))))) (by first | (simp only [g2, Bool.true_or, Bool.false_or, Bool.or_false, Bool.or_true, Bool.true_and, Bool.false_and, Bool.and_true, Bool.and_false, Bool.not_true, Bool.not_false, cond_true, cond_false]; done) | (simp [g2]; done))) AllP.nil))))), by kernel_rfl⟩) ?_
      refine xw_cond ((decide ((x2.able : Int) ≠ x1.able)) || (!(decide (x2.fields = x1.fields)))) rfl (fun h3 => ?_) (fun h3 => ?_)
      · have h3 := h3
        refine vx c [(8, .bool false)] [] AllP.nil (by kernel_rfl) ?_
        exact xret [.lf (.im true (.bool false))] rfl (by kernel_rfl) (retBF (fun hg => by have := hg.recEq _ _ _ hx1 hx2; subst this; simp at h3))
      · have h3 := h3
        refine xw_skip ?_
        exact vxe c [(4, .lf (.ptr 2 0)), (5, .cell 2 [.im true (.sl 2 (a.records.map rRec)), .im true (.sl 6 (a.funcs.map rFn)), .im true (.sl 1 (a.friends.map rI))]), (6, .lf (.ptr 3 0)), (7, .cell 3 [.im true (.sl 2 (b.records.map rRec)), .im true (.sl 6 (b.funcs.map rFn)), .im true (.sl 1 (b.friends.map rI))]), (58, .lf (.im true (.sl 2 (a.records.map rRec)))), (60, .int ((a.records.length : Nat) : Int)), (62, .int ((i + 1 : Nat) : Int))] [(0, .slot (.int ((i + 1 : Nat) : Int)))] (a2 (wI (a := ((i : Nat) : Int) + 1) (b := ((i + 1 : Nat) : Int)) (by omega) (by omega) (by omega)) AllP.nil) (by kernel_rfl) (⟨_, by omega, (i + 1), rfl, rfl, ⟨by omega, upto_succ hP1.2 hx1 hx2 (by simp at h3; exact rec_eq h3.1.symm h3.2.symm)⟩⟩)
    · have h2 := of_dF h2
      refine xw_exit ?_
      refine xw_seq ?_
      refine vx c [(4, .lf (.ptr 2 0)), (5, .cell 2 [.im true (.sl 2 (a.records.map rRec)), .im true (.sl 6 (a.funcs.map rFn)), .im true (.sl 1 (a.friends.map rI))]), (6, .lf (.ptr 3 0)), (7, .cell 3 [.im true (.sl 2 (b.records.map rRec)), .im true (.sl 6 (b.funcs.map rFn)), .im true (.sl 1 (b.friends.map rI))]), (118, .lf (.im true (.sl 6 (a.funcs.map rFn)))), (120, .int ((a.funcs.length : Nat) : Int)), (122, .int 0)] [(2, .slot (.int ((a.funcs.length : Nat) : Int)))] (a2 (ln (l := a.funcs) (f := rFn)) AllP.nil) (by kernel_rfl) ?_
      refine xw_block ?_
      refine xw_loop (fun n L => ∃ (k : Nat), L = [(4, .lf (.ptr 2 0)), (5, .cell 2 [.im true (.sl 2 (a.records.map rRec)), .im true (.sl 6 (a.funcs.map rFn)), .im true (.sl 1 (a.friends.map rI))]), (6, .lf (.ptr 3 0)), (7, .cell 3 [.im true (.sl 2 (b.records.map rRec)), .im true (.sl 6 (b.funcs.map rFn)), .im true (.sl 1 (b.friends.map rI))]), (118, .lf (.im true (.sl 6 (a.funcs.map rFn)))), (120, .int ((a.funcs.length : Nat) : Int)), (122, .int ((k : Nat) : Int))] ∧ n = a.funcs.length - k ∧ (k ≤ a.funcs.length ∧ ∀ (j : Nat) r s, j < k → a.funcs[j]? = some r → b.funcs[j]? = some s → FnOn r s)) _ ⟨0, rfl, rfl, ⟨by omega, by omega⟩⟩ ?_
      rintro n L ⟨k, rfl, rfl, hP2⟩
      refine vx c [(4, .lf (.ptr 2 0)), (5, .cell 2 [.im true (.sl 2 (a.records.map rRec)), .im true (.sl 6 (a.funcs.map rFn)), .im true (.sl 1 (a.friends.map rI))]), (6, .lf (.ptr 3 0)), (7, .cell 3 [.im true (.sl 2 (b.records.map rRec)), .im true (.sl 6 (b.funcs.map rFn)), .im true (.sl 1 (b.friends.map rI))]), (118, .lf (.im true (.sl 6 (a.funcs.map rFn)))), (120, .int ((a.funcs.length : Nat) : Int)), (122, .int ((k : Nat) : Int)), (124, .bool (decide ((((k : Nat) : Int) : Int) < ((a.funcs.length : Nat) : Int))))] [] AllP.nil (by kernel_rfl) ?_
      refine xw_seq ?_
      refine xw_cond (decide ((((k : Nat) : Int) : Int) < ((a.funcs.length : Nat) : Int))) rfl (fun h4 => ?_) (fun h4 => ?_)
      · have h4 := of_dT h4
        refine xw_skip ?_
        refine xw_seq ?_
        refine xw_block ?_
        obtain ⟨x3, hx3⟩ := get_lt (l := a.funcs) (i := k) (by omega)
        refine vx c [(4, .lf (.ptr 2 0)), (5, .cell 2 [.im true (.sl 2 (a.records.map rRec)), .im true (.sl 6 (a.funcs.map rFn)), .im true (.sl 1 (a.friends.map rI))]), (6, .lf (.ptr 3 0)), (7, .cell 3 [.im true (.sl 2 (b.records.map rRec)), .im true (.sl 6 (b.funcs.map rFn)), .im true (.sl 1 (b.friends.map rI))]), (14, .int ((k : Nat) : Int)), (16, .lf (.ptr 8 0)), (17, .cell 8 [.im true (.int .i64 x3.seen), .im true (.sl 1 (x3.args.map rS)), .im true (.sl 1 (x3.rets.map rS)), .im true (.sl 1 (x3.locals.map rS)), .im true (.sl 1 (x3.takes.map rI)), .im true (.sl 3 (x3.code.map rIns))]), (118, .lf (.im true (.sl 6 (a.funcs.map rFn)))), (120, .int ((a.funcs.length : Nat) : Int)), (122, .int ((k : Nat) : Int))] [(1, .row (rFn x3))] (a2 (ix (f := rFn) (l := a.funcs) (i := k) hx3) AllP.nil) (by kernel_rfl) ?_
        obtain ⟨x4, hx4⟩ := get_lt (l := b.funcs) (i := k) (by omega)
        refine vx c [(4, .lf (.ptr 2 0)), (5, .cell 2 [.im true (.sl 2 (a.records.map rRec)), .im true (.sl 6 (a.funcs.map rFn)), .im true (.sl 1 (a.friends.map rI))]), (6, .lf (.ptr 3 0)), (7, .cell 3 [.im true (.sl 2 (b.records.map rRec)), .im true (.sl 6 (b.funcs.map rFn)), .im true (.sl 1 (b.friends.map rI))]), (16, .lf (.ptr 8 0)), (17, .cell 8 [.im true (.int .i64 x3.seen), .im true (.sl 1 (x3.args.map rS)), .im true (.sl 1 (x3.rets.map rS)), .im true (.sl 1 (x3.locals.map rS)), .im true (.sl 1 (x3.takes.map rI)), .im true (.sl 3 (x3.code.map rIns))]), (18, .lf (.ptr 9 0)), (19, .cell 9 [.im true (.int .i64 x4.seen), .im true (.sl 1 (x4.args.map rS)), .im true (.sl 1 (x4.rets.map rS)), .im true (.sl 1 (x4.locals.map rS)), .im true (.sl 1 (x4.takes.map rI)), .im true (.sl 3 (x4.code.map rIns))]), (118, .lf (.im true (.sl 6 (a.funcs.map rFn)))), (120, .int ((a.funcs.length : Nat) : Int)), (122, .int ((k : Nat) : Int))] [(3, .row (rFn x4))] (a2 (ix (f := rFn) (l := b.funcs) (i := k) hx4) AllP.nil) (by kernel_rfl) ?_
        refine vxj c [(4, .lf (.ptr 2 0)), (5, .cell 2 [.im true (.sl 2 (a.records.map rRec)), .im true (.sl 6 (a.funcs.map rFn)), .im true (.sl 1 (a.friends.map rI))]), (6, .lf (.ptr 3 0)), (7, .cell 3 [.im true (.sl 2 (b.records.map rRec)), .im true (.sl 6 (b.funcs.map rFn)), .im true (.sl 1 (b.friends.map rI))]), (118, .lf (.im true (.sl 6 (a.funcs.map rFn)))), (120, .int ((a.funcs.length : Nat) : Int)), (122, .int ((k : Nat) : Int)), (192, .bool ((decide ((x3.seen : Int) ≠ 0)) && ((decide ((x4.seen : Int) < x3.seen)) || ((!(decide (x4.args = x3.args))) || (!(decide (x4.rets = x3.rets)))))))] (by
            rcases Bool.eq_false_or_eq_true (decide ((x3.seen : Int) ≠ 0)) with g3 | g3
            · rcases Bool.eq_false_or_eq_true (decide ((x4.seen : Int) < x3.seen)) with g4 | g4
              · exact ⟨[(2, .slot (.bool true)), (8, .slot (.bool true)), (25, .slot (.bool ((decide ((x3.seen : Int) ≠ 0)) && ((decide ((x4.seen : Int) < x3.seen)) || ((!(decide (x4.args = x3.args))) || (!(decide (x4.rets = x3.rets))))))))], _, (a2 (kB g3) (a2 (kB g4) (a2 (kB (b := true) (c := ((decide ((x3.seen : Int) ≠ 0)) && ((decide ((x4.seen : Int) < x3.seen)) || ((!(decide (x4.args = x3.args))) || (!(decide (x4.rets = x3.rets))))))) (by first | (simp only [g3, g4, Bool.true_or, Bool.false_or, Bool.or_false, Bool.or_true, Bool.true_and, Bool.false_and, Bool.and_true, Bool.and_false, Bool.not_true, Bool.not_false, cond_true, cond_false]; done) | (simp [g3, g4]; done))) AllP.nil))), by kernel_rfl⟩
              · rcases Bool.eq_false_or_eq_true (!(decide (x4.args = x3.args))) with g5 | g5
                · exact ⟨[(2, .slot (.bool true)), (8, .slot (.bool false)), (14, .ret (.bool (decide (x4.args = x3.args)))), (15, .slot (.bool true)), (25, .slot (.bool ((decide ((x3.seen : Int) ≠ 0)) && ((decide ((x4.seen : Int) < x3.seen)) || ((!(decide (x4.args = x3.args))) || (!(decide (x4.rets = x3.rets))))))))], _, (a2 (kB g3) (a2 (kB g4) (a2 (cl tx21 (slices_Equal___string_string__v x4.args x3.args (by exact (hob.2.1.2 _ (List.mem_of_getElem? hx4)).1.1))) (a2 (kB g5) (a2 (kB (b := true) (c := ((decide ((x3.seen : Int) ≠ 0)) && ((decide ((x4.seen : Int) < x3.seen)) || ((!(decide (x4.args = x3.args))) || (!(decide (x4.rets = x3.rets))))))) (by first | (simp only [g3, g4, g5, Bool.true_or, Bool.false_or, Bool.or_false, Bool.or_true, Bool.true_and, Bool.false_and, Bool.and_true, Bool.and_false, Bool.not_true, Bool.not_false, cond_true, cond_false]; done) | (simp [g3, g4, g5]; done))) AllP.nil))))), by kernel_rfl⟩
                · exact ⟨[(2, .slot (.bool true)), (8, .slot (.bool false)), (14, .ret (.bool (decide (x4.args = x3.args)))), (15, .slot (.bool false)), (22, .ret (.bool (decide (x4.rets = x3.rets)))), (25, .slot (.bool ((decide ((x3.seen : Int) ≠ 0)) && ((decide ((x4.seen : Int) < x3.seen)) || ((!(decide (x4.args = x3.args))) || (!(decide (x4.rets = x3.rets))))))))], _, (a2 (kB g3) (a2 (kB g4) (a2 (cl tx21 (slices_Equal___string_string__v x4.args x3.args (by exact (hob.2.1.2 _ (List.mem_of_getElem? hx4)).1.1))) (a2 (kB g5) (a2 (cl tx21 (slices_Equal___string_string__v x4.rets x3.rets (by exact (hob.2.1.2 _ (List.mem_of_getElem? hx4)).2.1.1))) (a2 (kB (b := !(decide (x4.rets = x3.rets))) (c := ((decide ((x3.seen : Int) ≠ 0)) && ((decide ((x4.seen : Int) < x3.seen)) || ((!(decide (x4.args = x3.args))) || (!(decide (x4.rets = x3.rets))))))) (by first | (simp only [g3, g4, g5, Bool.true_or, Bool.false_or, Bool.or_false, Bool.or_true, Bool.true_and, Bool.false_and, Bool.and_true, Bool.and_false, Bool.not_true, Bool.not_false, cond_true, cond_false]; done) | (simp [g3, g4, g5]; done))) AllP.nil)))))), by kernel_rfl⟩
            · exact ⟨[(2, .slot (.bool false)), (25, .slot (.bool ((decide ((x3.seen : Int) ≠ 0)) && ((decide ((x4.seen : Int) < x3.seen)) || ((!(decide (x4.args = x3.args))) || (!(decide (x4.rets = x3.rets))))))))], _, (a2 (kB g3) (a2 (kB (b := false) (c := ((decide ((x3.seen : Int) ≠ 0)) && ((decide ((x4.seen : Int) < x3.seen)) || ((!(decide (x4.args = x3.args))) || (!(decide (x4.rets = x3.rets))))))) (by first | (simp only [g3, Bool.true_or, Bool.false_or, Bool.or_false, Bool.or_true, Bool.true_and, Bool.false_and, Bool.and_true, Bool.and_false, Bool.not_true, Bool.not_false, cond_true, cond_false]; done) | (simp [g3]; done))) AllP.nil)), by kernel_rfl⟩) ?_
        refine xw_cond ((decide ((x3.seen : Int) ≠ 0)) && ((decide ((x4.seen : Int) < x3.seen)) || ((!(decide (x4.args = x3.args))) || (!(decide (x4.rets = x3.rets)))))) rfl (fun h5 => ?_) (fun h5 => ?_)
        · have h5 := h5
          refine vx c [(8, .bool false)] [] AllP.nil (by kernel_rfl) ?_
          exact xret [.lf (.im true (.bool false))] rfl (by kernel_rfl) (retBF (fun hg => by have := hg.fn _ _ _ hx3 hx4; unfold FnOn at this; grind))
        · have h5 := h5
          refine xw_skip ?_
          exact vxe c [(4, .lf (.ptr 2 0)), (5, .cell 2 [.im true (.sl 2 (a.records.map rRec)), .im true (.sl 6 (a.funcs.map rFn)), .im true (.sl 1 (a.friends.map rI))]), (6, .lf (.ptr 3 0)), (7, .cell 3 [.im true (.sl 2 (b.records.map rRec)), .im true (.sl 6 (b.funcs.map rFn)), .im true (.sl 1 (b.friends.map rI))]), (118, .lf (.im true (.sl 6 (a.funcs.map rFn)))), (120, .int ((a.funcs.length : Nat) : Int)), (122, .int ((k + 1 : Nat) : Int))] [(0, .slot (.int ((k + 1 : Nat) : Int)))] (a2 (wI (a := ((k : Nat) : Int) + 1) (b := ((k + 1 : Nat) : Int)) (by omega) (by omega) (by omega)) AllP.nil) (by kernel_rfl) (⟨_, by omega, (k + 1), rfl, rfl, ⟨by omega, upto_succ hP2.2 hx3 hx4 (by unfold FnOn; grind)⟩⟩)
      · have h4 := of_dF h4
        refine xw_exit ?_
        refine xw_seq ?_
        refine vx c [(6, .lf (.ptr 3 0)), (7, .cell 3 [.im true (.sl 2 (b.records.map rRec)), .im true (.sl 6 (b.funcs.map rFn)), .im true (.sl 1 (b.friends.map rI))]), (198, .lf (.im true (.sl 1 (a.friends.map rI)))), (200, .int ((a.friends.length : Nat) : Int)), (202, .int 0)] [(2, .slot (.int ((a.friends.length : Nat) : Int)))] (a2 (ln (l := a.friends) (f := rI)) AllP.nil) (by kernel_rfl) ?_
        refine xw_block ?_
        refine xw_loop (fun n L => ∃ (q : Nat), L = [(6, .lf (.ptr 3 0)), (7, .cell 3 [.im true (.sl 2 (b.records.map rRec)), .im true (.sl 6 (b.funcs.map rFn)), .im true (.sl 1 (b.friends.map rI))]), (198, .lf (.im true (.sl 1 (a.friends.map rI)))), (200, .int ((a.friends.length : Nat) : Int)), (202, .int ((q : Nat) : Int))] ∧ n = a.friends.length - q ∧ (q ≤ a.friends.length ∧ ∀ y ∈ a.friends.take q, y ∈ b.friends)) _ ⟨0, rfl, rfl, ⟨by omega, by simp⟩⟩ ?_
        rintro n L ⟨q, rfl, rfl, hP3⟩
        refine vx c [(6, .lf (.ptr 3 0)), (7, .cell 3 [.im true (.sl 2 (b.records.map rRec)), .im true (.sl 6 (b.funcs.map rFn)), .im true (.sl 1 (b.friends.map rI))]), (198, .lf (.im true (.sl 1 (a.friends.map rI)))), (200, .int ((a.friends.length : Nat) : Int)), (202, .int ((q : Nat) : Int)), (204, .bool (decide ((((q : Nat) : Int) : Int) < ((a.friends.length : Nat) : Int))))] [] AllP.nil (by kernel_rfl) ?_
        refine xw_seq ?_
        refine xw_cond (decide ((((q : Nat) : Int) : Int) < ((a.friends.length : Nat) : Int))) rfl (fun h6 => ?_) (fun h6 => ?_)
        · have h6 := of_dT h6
          refine xw_skip ?_
          refine xw_seq ?_
          refine xw_block ?_
          obtain ⟨x5, hx5⟩ := get_lt (l := a.friends) (i := q) (by omega)
          refine vx c [(6, .lf (.ptr 3 0)), (7, .cell 3 [.im true (.sl 2 (b.records.map rRec)), .im true (.sl 6 (b.funcs.map rFn)), .im true (.sl 1 (b.friends.map rI))]), (22, .int x5), (198, .lf (.im true (.sl 1 (a.friends.map rI)))), (200, .int ((a.friends.length : Nat) : Int)), (202, .int ((q : Nat) : Int))] [(0, .row (rI x5))] (a2 (ix (f := rI) (l := a.friends) (i := q) hx5) AllP.nil) (by kernel_rfl) ?_
          refine vx c [(6, .lf (.ptr 3 0)), (7, .cell 3 [.im true (.sl 2 (b.records.map rRec)), .im true (.sl 6 (b.funcs.map rFn)), .im true (.sl 1 (b.friends.map rI))]), (198, .lf (.im true (.sl 1 (a.friends.map rI)))), (200, .int ((a.friends.length : Nat) : Int)), (202, .int ((q : Nat) : Int)), (218, .bool (!(B (x5 ∈ b.friends))))] [(3, .ret (.bool (B (x5 ∈ b.friends))))] (a2 (cl tx22 (slices_Contains___int_int__v b.friends (by assumption) x5)) AllP.nil) (by kernel_rfl) ?_
          refine xw_cond (!(B (x5 ∈ b.friends))) rfl (fun h7 => ?_) (fun h7 => ?_)
          · have h7 : (B (x5 ∈ b.friends)) = false := of_nT h7
            refine vx c [(8, .bool false)] [] AllP.nil (by kernel_rfl) ?_
            exact xret [.lf (.im true (.bool false))] rfl (by kernel_rfl) (retBF (fun hg => by have := B_true (hg.friend _ (List.mem_of_getElem? hx5)); rw [this] at h7; simp at h7))
          · have h7 : (B (x5 ∈ b.friends)) = true := of_nF h7
            refine xw_skip ?_
            exact vxe c [(6, .lf (.ptr 3 0)), (7, .cell 3 [.im true (.sl 2 (b.records.map rRec)), .im true (.sl 6 (b.funcs.map rFn)), .im true (.sl 1 (b.friends.map rI))]), (198, .lf (.im true (.sl 1 (a.friends.map rI)))), (200, .int ((a.friends.length : Nat) : Int)), (202, .int ((q + 1 : Nat) : Int))] [(0, .slot (.int ((q + 1 : Nat) : Int)))] (a2 (wI (a := ((q : Nat) : Int) + 1) (b := ((q + 1 : Nat) : Int)) (by omega) (by omega) (by omega)) AllP.nil) (by kernel_rfl) (⟨_, by omega, (q + 1), rfl, rfl, ⟨by omega, mem_succ hP3.2 hx5 (B_iff.1 (by simpa using h7))⟩⟩)
        · have h6 := of_dF h6
          refine xw_exit ?_
          refine vx c [(8, .bool true)] [] AllP.nil (by kernel_rfl) ?_
          exact xret [.lf (.im true (.bool true))] rfl (by kernel_rfl) (retBT ⟨hlen.1, hlen.2, upto_all hP1.2 (by omega), upto_all hP2.2 (by omega), mem_all hP3.2 (by omega)⟩)
set_option maxRecDepth 100000 in
theorem law_v (a b : Mod) (hoa : a.ok) (hob : b.ok) :
    CallV Try.prog 3 [.agg [.im true (.sl 2 (a.records.map rRec)), .im true (.sl 6 (a.funcs.map rFn)), .im true (.sl 1 (a.friends.map rI))], .agg [.im true (.sl 2 (b.records.map rRec)), .im true (.sl 6 (b.funcs.map rFn)), .im true (.sl 1 (b.friends.map rI))]] (· = .bool true) := by
  refine CallX (fn := Try.f3) TTok mixed Try.func3 rfl rfl rfl rfl rfl fun E c => ?_
  refine vx c [(4, .lf (.ptr 2 0)), (5, .cell 2 [.im true (.sl 2 (a.records.map rRec)), .im true (.sl 6 (a.funcs.map rFn)), .im true (.sl 1 (a.friends.map rI))]), (6, .lf (.ptr 3 0)), (7, .cell 3 [.im true (.sl 2 (b.records.map rRec)), .im true (.sl 6 (b.funcs.map rFn)), .im true (.sl 1 (b.friends.map rI))])] [] AllP.nil (by kernel_rfl) ?_
  refine vx c [(4, .lf (.ptr 2 0)), (5, .cell 2 [.im true (.sl 2 (a.records.map rRec)), .im true (.sl 6 (a.funcs.map rFn)), .im true (.sl 1 (a.friends.map rI))]), (6, .lf (.ptr 3 0)), (7, .cell 3 [.im true (.sl 2 (b.records.map rRec)), .im true (.sl 6 (b.funcs.map rFn)), .im true (.sl 1 (b.friends.map rI))]), (10, .int 1048576)] [] AllP.nil (by kernel_rfl) ?_
  refine vx c [(4, .lf (.ptr 2 0)), (5, .cell 2 [.im true (.sl 2 (a.records.map rRec)), .im true (.sl 6 (a.funcs.map rFn)), .im true (.sl 1 (a.friends.map rI))]), (6, .lf (.ptr 3 0)), (7, .cell 3 [.im true (.sl 2 (b.records.map rRec)), .im true (.sl 6 (b.funcs.map rFn)), .im true (.sl 1 (b.friends.map rI))]), (10, .int (szR (wMod a) 1048576))] [(2, .ret (.int (szR (wMod a) 1048576)))] (a2 (cl tx5 (laws_szModule_v a (by assumption) 1048576 (by omega) (by omega))) AllP.nil) (by kernel_rfl) ?_
  refine xw_seq ?_
  refine vx c [(4, .lf (.ptr 2 0)), (5, .cell 2 [.im true (.sl 2 (a.records.map rRec)), .im true (.sl 6 (a.funcs.map rFn)), .im true (.sl 1 (a.friends.map rI))]), (6, .lf (.ptr 3 0)), (7, .cell 3 [.im true (.sl 2 (b.records.map rRec)), .im true (.sl 6 (b.funcs.map rFn)), .im true (.sl 1 (b.friends.map rI))]), (10, .int (szR (wMod a) 1048576)), (28, .bool (decide ((szR (wMod a) 1048576 : Int) < 0)))] [] AllP.nil (by kernel_rfl) ?_
  refine xw_cond (decide ((szR (wMod a) 1048576 : Int) < 0)) rfl (fun h1 => ?_) (fun h1 => ?_)
  · have h1 := of_dT h1
    refine vx c [(8, .bool true)] [] AllP.nil (by kernel_rfl) ?_
    exact xret [.lf (.im true (.bool true))] rfl (by kernel_rfl) (rfl)
  · have h1 := of_dF h1
    have e1 := szR_pos h1 (by omega)
    have sa : a.small := Mod.small_of (by omega)
    refine xw_skip ?_
    refine vx c [(4, .lf (.ptr 2 0)), (5, .cell 2 [.im true (.sl 2 (a.records.map rRec)), .im true (.sl 6 (a.funcs.map rFn)), .im true (.sl 1 (a.friends.map rI))]), (6, .lf (.ptr 3 0)), (7, .cell 3 [.im true (.sl 2 (b.records.map rRec)), .im true (.sl 6 (b.funcs.map rFn)), .im true (.sl 1 (b.friends.map rI))]), (10, .int (szR (wMod b) (szR (wMod a) 1048576)))] [(2, .ret (.int (szR (wMod b) (szR (wMod a) 1048576))))] (a2 (cl tx5 (laws_szModule_v b (by assumption) (szR (wMod a) 1048576) (by omega) (by omega))) AllP.nil) (by kernel_rfl) ?_
    refine xw_seq ?_
    refine vx c [(4, .lf (.ptr 2 0)), (5, .cell 2 [.im true (.sl 2 (a.records.map rRec)), .im true (.sl 6 (a.funcs.map rFn)), .im true (.sl 1 (a.friends.map rI))]), (6, .lf (.ptr 3 0)), (7, .cell 3 [.im true (.sl 2 (b.records.map rRec)), .im true (.sl 6 (b.funcs.map rFn)), .im true (.sl 1 (b.friends.map rI))]), (38, .bool (decide ((szR (wMod b) (szR (wMod a) 1048576) : Int) < 0)))] [] AllP.nil (by kernel_rfl) ?_
    refine xw_cond (decide ((szR (wMod b) (szR (wMod a) 1048576) : Int) < 0)) rfl (fun h2 => ?_) (fun h2 => ?_)
    · have h2 := of_dT h2
      refine vx c [(8, .bool true)] [] AllP.nil (by kernel_rfl) ?_
      exact xret [.lf (.im true (.bool true))] rfl (by kernel_rfl) (rfl)
    · have h2 := of_dF h2
      have e2 := szR_pos h2 (by omega)
      have sb : b.small := Mod.small_of (by omega)
      refine xw_skip ?_
      refine vx c [(4, .lf (.ptr 2 0)), (5, .cell 2 [.im true (.sl 2 (a.records.map rRec)), .im true (.sl 6 (a.funcs.map rFn)), .im true (.sl 1 (a.friends.map rI))]), (6, .lf (.ptr 3 0)), (7, .cell 3 [.im true (.sl 2 (b.records.map rRec)), .im true (.sl 6 (b.funcs.map rFn)), .im true (.sl 1 (b.friends.map rI))]), (12, .bool (B (GoesOn a b)))] [(1, .ret (.agg [.im true (.sl 2 (a.records.map rRec)), .im true (.sl 6 (a.funcs.map rFn)), .im true (.sl 1 (a.friends.map rI))])), (3, .ret (.agg [.im true (.sl 2 (b.records.map rRec)), .im true (.sl 6 (b.funcs.map rFn)), .im true (.sl 1 (b.friends.map rI))])), (4, .ret (.bool (B (GoesOn a b))))] (a2 (cl tx7 (laws_toModule_v a (by assumption))) (a2 (cl tx7 (laws_toModule_v b (by assumption))) (a2 (cl tx6 (spec_ModuleGoesOn_v a b (by assumption) (by assumption))) AllP.nil))) (by kernel_rfl) ?_
      refine vx c [(4, .lf (.ptr 2 0)), (5, .cell 2 [.im true (.sl 2 (a.records.map rRec)), .im true (.sl 6 (a.funcs.map rFn)), .im true (.sl 1 (a.friends.map rI))]), (6, .lf (.ptr 3 0)), (7, .cell 3 [.im true (.sl 2 (b.records.map rRec)), .im true (.sl 6 (b.funcs.map rFn)), .im true (.sl 1 (b.friends.map rI))]), (12, .bool (B (GoesOn a b))), (14, .lf (.ptr 7 0)), (15, .cell 7 [.im true (.sl 2 (a.records.map rRec)), .im true (.sl 6 (a.funcs.map rFn)), .im true (.sl 1 (a.friends.map rI))])] [(1, .ret (.agg [.im true (.sl 2 (a.records.map rRec)), .im true (.sl 6 (a.funcs.map rFn)), .im true (.sl 1 (a.friends.map rI))]))] (a2 (cl tx7 (laws_toModule_v a (by assumption))) AllP.nil) (by kernel_rfl) ?_
      refine vx c [(4, .lf (.ptr 2 0)), (5, .cell 2 [.im true (.sl 2 (a.records.map rRec)), .im true (.sl 6 (a.funcs.map rFn)), .im true (.sl 1 (a.friends.map rI))]), (6, .lf (.ptr 3 0)), (7, .cell 3 [.im true (.sl 2 (b.records.map rRec)), .im true (.sl 6 (b.funcs.map rFn)), .im true (.sl 1 (b.friends.map rI))]), (12, .bool (B (GoesOn a b))), (14, .lf (.ptr 7 0)), (15, .cell 7 [.im true (.sl 2 (a.records.map rRec)), .im true (.sl 6 (a.funcs.map rFn)), .im true (.sl 1 (a.friends.map rI))]), (16, .lf (.ptr 8 0)), (17, .cell 8 [.im true (.sl 2 (b.records.map rRec)), .im true (.sl 6 (b.funcs.map rFn)), .im true (.sl 1 (b.friends.map rI))])] [(1, .ret (.agg [.im true (.sl 2 (b.records.map rRec)), .im true (.sl 6 (b.funcs.map rFn)), .im true (.sl 1 (b.friends.map rI))]))] (a2 (cl tx7 (laws_toModule_v b (by assumption))) AllP.nil) (by kernel_rfl) ?_
      refine vx c [(4, .lf (.ptr 2 0)), (5, .cell 2 [.im true (.sl 2 (a.records.map rRec)), .im true (.sl 6 (a.funcs.map rFn)), .im true (.sl 1 (a.friends.map rI))]), (6, .lf (.ptr 3 0)), (7, .cell 3 [.im true (.sl 2 (b.records.map rRec)), .im true (.sl 6 (b.funcs.map rFn)), .im true (.sl 1 (b.friends.map rI))]), (12, .bool (B (GoesOn a b))), (14, .lf (.ptr 7 0)), (15, .cell 7 [.im true (.sl 2 (a.records.map rRec)), .im true (.sl 6 (a.funcs.map rFn)), .im true (.sl 1 (a.friends.map rI))]), (16, .lf (.ptr 8 0)), (17, .cell 8 [.im true (.sl 2 (b.records.map rRec)), .im true (.sl 6 (b.funcs.map rFn)), .im true (.sl 1 (b.friends.map rI))]), (18, .bool (B (GoesOn a b)))] [(2, .ret (.bool (B (GoesOn a b))))] (a2 (cl tx8 (impl_ModuleGoesOn_v a b (by assumption) (by assumption))) AllP.nil) (by kernel_rfl) ?_
      refine xw_seq ?_
      refine vx c [(4, .lf (.ptr 2 0)), (5, .cell 2 [.im true (.sl 2 (a.records.map rRec)), .im true (.sl 6 (a.funcs.map rFn)), .im true (.sl 1 (a.friends.map rI))]), (6, .lf (.ptr 3 0)), (7, .cell 3 [.im true (.sl 2 (b.records.map rRec)), .im true (.sl 6 (b.funcs.map rFn)), .im true (.sl 1 (b.friends.map rI))]), (14, .lf (.ptr 7 0)), (15, .cell 7 [.im true (.sl 2 (a.records.map rRec)), .im true (.sl 6 (a.funcs.map rFn)), .im true (.sl 1 (a.friends.map rI))]), (16, .lf (.ptr 8 0)), (17, .cell 8 [.im true (.sl 2 (b.records.map rRec)), .im true (.sl 6 (b.funcs.map rFn)), .im true (.sl 1 (b.friends.map rI))]), (68, .bool ((B (GoesOn a b)) != (B (GoesOn a b))))] [] AllP.nil (by kernel_rfl) ?_
      refine xw_cond ((B (GoesOn a b)) != (B (GoesOn a b))) rfl (fun h3 => ?_) (fun h3 => ?_)
      · exact absurd h3 (by simp)
      · have h3 := h3
        refine xw_skip ?_
        refine xw_seq ?_
        refine vx c [(6, .lf (.ptr 3 0)), (7, .cell 3 [.im true (.sl 2 (b.records.map rRec)), .im true (.sl 6 (b.funcs.map rFn)), .im true (.sl 1 (b.friends.map rI))]), (16, .lf (.ptr 8 0)), (17, .cell 8 [.im true (.sl 2 (b.records.map rRec)), .im true (.sl 6 (b.funcs.map rFn)), .im true (.sl 1 (b.friends.map rI))]), (78, .bool (!(decide (a = a))))] [(2, .ret (.agg [.im true (.sl 2 (a.records.map rRec)), .im true (.sl 6 (a.funcs.map rFn)), .im true (.sl 1 (a.friends.map rI))])), (3, .ret (.bool (decide (a = a))))] (a2 (cl tx7 (laws_toModule_v a (by assumption))) (a2 (cl tx9 (laws_eqModule_v a a (by assumption))) AllP.nil)) (by kernel_rfl) ?_
        refine xw_cond (!(decide (a = a))) rfl (fun h4 => ?_) (fun h4 => ?_)
        · exact absurd h4 (by simp)
        · have h4 : (decide (a = a)) = true := of_nF h4
          refine xw_skip ?_
          refine xw_seq ?_
          refine vx c [(88, .bool (!(decide (b = b))))] [(2, .ret (.agg [.im true (.sl 2 (b.records.map rRec)), .im true (.sl 6 (b.funcs.map rFn)), .im true (.sl 1 (b.friends.map rI))])), (3, .ret (.bool (decide (b = b))))] (a2 (cl tx7 (laws_toModule_v b (by assumption))) (a2 (cl tx9 (laws_eqModule_v b b (by assumption))) AllP.nil)) (by kernel_rfl) ?_
          refine xw_cond (!(decide (b = b))) rfl (fun h5 => ?_) (fun h5 => ?_)
          · exact absurd h5 (by simp)
          · have h5 : (decide (b = b)) = true := of_nF h5
            refine xw_skip ?_
            refine vx c [(8, .bool true)] [] AllP.nil (by kernel_rfl) ?_
            exact xret [.lf (.im true (.bool true))] rfl (by kernel_rfl) (rfl)
end Go.Proofs.Ytahciphhopiipaa
