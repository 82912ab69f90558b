import Derived.Test.YtahciphhopiipaaGreatDoorD6
import Derived.Test.YtahciphhopiipaaGreatDoorProg
import Derived.KernelRfl
set_option linter.unusedVariables false
set_option linter.unusedSimpArgs false
namespace Go.Proofs.YtahciphhopiipaaGreatDoor
open Go Go.RowKit V
def TTf : Tab := [(3, ⟨.int .i64, 1, 8, [.im true (.int .i64 0)], [.int .i64 0]⟩),
  (5, ⟨.int .u8, 1, 1, [.im true (.int .u8 0)], [.int .u8 0]⟩),
  (9, ⟨.str, 1, 16, [.im true (.str ⟨#[]⟩)], [.str ⟨#[]⟩]⟩),
  (22, ⟨.sl 47, 1, 24, [.nil], [.sl 3 []]⟩),
  (24, ⟨.sl 3, 1, 24, [.nil], [.sl 1 []]⟩),
  (26, ⟨.sl 53, 1, 24, [.nil], [.sl 3 []]⟩),
  (33, ⟨.sl 5, 1, 24, [.nil], [.sl 1 []]⟩),
  (44, ⟨.sl 108, 1, 24, [.nil], [.sl 2 []]⟩),
  (45, ⟨.sl 112, 1, 24, [.nil], [.sl 6 []]⟩),
  (47, ⟨.st [(0, 1), (1, 1), (2, 1)], 3, 72, [.nil, .nil, .nil], [.sl 2 [], .sl 6 [], .sl 1 []]⟩),
  (50, ⟨.sl 66, 1, 24, [.nil], [.sl 2 []]⟩),
  (51, ⟨.sl 74, 1, 24, [.nil], [.sl 6 []]⟩),
  (53, ⟨.st [(0, 1), (1, 1), (2, 1)], 3, 72, [.nil, .nil, .nil], [.sl 2 [], .sl 6 [], .sl 1 []]⟩),
  (64, ⟨.sl 9, 1, 24, [.nil], [.sl 1 []]⟩),
  (66, ⟨.st [(0, 1), (1, 1)], 2, 32, [.im true (.int .i64 0), .nil], [.int .i64 0, .sl 1 []]⟩),
  (72, ⟨.sl 80, 1, 24, [.nil], [.sl 3 []]⟩),
  (74, ⟨.st [(0, 1), (1, 1), (2, 1), (3, 1), (4, 1), (5, 1)], 6, 128, [.im true (.int .i64 0), .nil, .nil, .nil, .nil, .nil], [.int .i64 0, .sl 1 [], .sl 1 [], .sl 1 [], .sl 1 [], .sl 3 []]⟩),
  (80, ⟨.st [(0, 1), (1, 1), (2, 1)], 3, 32, [.im true (.str ⟨#[]⟩), .im true (.int .i64 0), .im true (.int .i64 0)], [.str ⟨#[]⟩, .int .i64 0, .int .i64 0]⟩),
  (108, ⟨.st [(0, 1), (1, 1)], 2, 32, [.im true (.int .i64 0), .nil], [.int .i64 0, .sl 1 []]⟩),
  (110, ⟨.sl 142, 1, 24, [.nil], [.sl 3 []]⟩),
  (112, ⟨.st [(0, 1), (1, 1), (2, 1), (3, 1), (4, 1), (5, 1)], 6, 128, [.im true (.int .i64 0), .nil, .nil, .nil, .nil, .nil], [.int .i64 0, .sl 1 [], .sl 1 [], .sl 1 [], .sl 1 [], .sl 3 []]⟩),
  (142, ⟨.st [(0, 1), (1, 1), (2, 1)], 3, 32, [.im true (.str ⟨#[]⟩), .im true (.int .i64 0), .im true (.int .i64 0)], [.str ⟨#[]⟩, .int .i64 0, .int .i64 0]⟩)]
theorem TTokf : TabOK Tryz.prog TTf := ⟨.int .i64 (by kernel_rfl) (by kernel_rfl),
  .int .u8 (by kernel_rfl) (by kernel_rfl),
  .str (by kernel_rfl) (by kernel_rfl),
  .sl 47 3 (by kernel_rfl) (by kernel_rfl) (by kernel_rfl),
  .sl 3 1 (by kernel_rfl) (by kernel_rfl) (by kernel_rfl),
  .sl 53 3 (by kernel_rfl) (by kernel_rfl) (by kernel_rfl),
  .sl 5 1 (by kernel_rfl) (by kernel_rfl) (by kernel_rfl),
  .sl 108 2 (by kernel_rfl) (by kernel_rfl) (by kernel_rfl),
  .sl 112 6 (by kernel_rfl) (by kernel_rfl) (by kernel_rfl),
  .st [(0, 1), (1, 1), (2, 1)] (.agg #[(.slice none 0 0), (.slice none 0 0), (.slice none 0 0)]) (by kernel_rfl) (by kernel_rfl) rfl rfl (.inr ⟨rfl, rfl⟩) (by decide),
  .sl 66 2 (by kernel_rfl) (by kernel_rfl) (by kernel_rfl),
  .sl 74 6 (by kernel_rfl) (by kernel_rfl) (by kernel_rfl),
  .st [(0, 1), (1, 1), (2, 1)] (.agg #[(.slice none 0 0), (.slice none 0 0), (.slice none 0 0)]) (by kernel_rfl) (by kernel_rfl) rfl rfl (.inr ⟨rfl, rfl⟩) (by decide),
  .sl 9 1 (by kernel_rfl) (by kernel_rfl) (by kernel_rfl),
  .st [(0, 1), (1, 1)] (.agg #[(.int .i64 0), (.slice none 0 0)]) (by kernel_rfl) (by kernel_rfl) rfl rfl (.inr ⟨rfl, rfl⟩) (by decide),
  .sl 80 3 (by kernel_rfl) (by kernel_rfl) (by kernel_rfl),
  .st [(0, 1), (1, 1), (2, 1), (3, 1), (4, 1), (5, 1)] (.agg #[(.int .i64 0), (.slice none 0 0), (.slice none 0 0), (.slice none 0 0), (.slice none 0 0), (.slice none 0 0)]) (by kernel_rfl) (by kernel_rfl) rfl rfl (.inr ⟨rfl, rfl⟩) (by decide),
  .st [(0, 1), (1, 1), (2, 1)] (.agg #[(.string ⟨#[]⟩), (.int .i64 0), (.int .i64 0)]) (by kernel_rfl) (by kernel_rfl) rfl rfl (.inr ⟨rfl, rfl⟩) (by decide),
  .st [(0, 1), (1, 1)] (.agg #[(.int .i64 0), (.slice none 0 0)]) (by kernel_rfl) (by kernel_rfl) rfl rfl (.inr ⟨rfl, rfl⟩) (by decide),
  .sl 142 3 (by kernel_rfl) (by kernel_rfl) (by kernel_rfl),
  .st [(0, 1), (1, 1), (2, 1), (3, 1), (4, 1), (5, 1)] (.agg #[(.int .i64 0), (.slice none 0 0), (.slice none 0 0), (.slice none 0 0), (.slice none 0 0), (.slice none 0 0)]) (by kernel_rfl) (by kernel_rfl) rfl rfl (.inr ⟨rfl, rfl⟩) (by decide),
  .st [(0, 1), (1, 1), (2, 1)] (.agg #[(.string ⟨#[]⟩), (.int .i64 0), (.int .i64 0)]) (by kernel_rfl) (by kernel_rfl) rfl rfl (.inr ⟨rfl, rfl⟩) (by decide), trivial⟩
theorem mixedf : Tryz.prog.follows .mixedOrders = true := by kernel_rfl
theorem tx9f : Text Tryz.prog 9 := Text.of Tryz.func9 rfl (by kernel_rfl)
theorem tx21f : Text Tryz.prog 21 := Text.of Tryz.func21 rfl (by kernel_rfl)
theorem tx25f : Text Tryz.prog 25 := Text.of Tryz.func25 rfl (by kernel_rfl)
theorem tx28f : Text Tryz.prog 28 := Text.of Tryz.func28 rfl (by kernel_rfl)
theorem tx47f : Text Tryz.prog 47 := Text.of Tryz.func47 rfl (by kernel_rfl)
theorem tx48f : Text Tryz.prog 48 := Text.of Tryz.func48 rfl (by kernel_rfl)
theorem tx49f : Text Tryz.prog 49 := Text.of Tryz.func49 rfl (by kernel_rfl)
theorem tx54f : Text Tryz.prog 54 := Text.of Tryz.func54 rfl (by kernel_rfl)
theorem tx55f : Text Tryz.prog 55 := Text.of Tryz.func55 rfl (by kernel_rfl)
theorem tx56f : Text Tryz.prog 56 := Text.of Tryz.func56 rfl (by kernel_rfl)
theorem tx58f : Text Tryz.prog 58 := Text.of Tryz.func58 rfl (by kernel_rfl)
theorem tx59f : Text Tryz.prog 59 := Text.of Tryz.func59 rfl (by kernel_rfl)
theorem tx80f : Text Tryz.prog 80 := Text.of Tryz.func80 rfl (by kernel_rfl)
theorem tx81f : Text Tryz.prog 81 := Text.of Tryz.func81 rfl (by kernel_rfl)
theorem tx86f : Text Tryz.prog 86 := Text.of Tryz.func86 rfl (by kernel_rfl)
theorem tx87f : Text Tryz.prog 87 := Text.of Tryz.func87 rfl (by kernel_rfl)
theorem tx90f : Text Tryz.prog 90 := Text.of Tryz.func90 rfl (by kernel_rfl)
theorem tx91f : Text Tryz.prog 91 := Text.of Tryz.func91 rfl (by kernel_rfl)
theorem tx104f : Text Tryz.prog 104 := Text.of Tryz.func104 rfl (by kernel_rfl)
theorem tx105f : Text Tryz.prog 105 := Text.of Tryz.func105 rfl (by kernel_rfl)
theorem tx109f : Text Tryz.prog 109 := Text.of Tryz.func109 rfl (by kernel_rfl)
theorem tx110f : Text Tryz.prog 110 := Text.of Tryz.func110 rfl (by kernel_rfl)
theorem tx112f : Text Tryz.prog 112 := Text.of Tryz.func112 rfl (by kernel_rfl)
theorem tx113f : Text Tryz.prog 113 := Text.of Tryz.func113 rfl (by kernel_rfl)
theorem tx118f : Text Tryz.prog 118 := Text.of Tryz.func118 rfl (by kernel_rfl)
theorem tx123f : Text Tryz.prog 123 := Text.of Tryz.func123 rfl (by kernel_rfl)
theorem tx124f : Text Tryz.prog 124 := Text.of Tryz.func124 rfl (by kernel_rfl)

set_option maxRecDepth 100000 in
theorem laws_eqStringS_v (a b : List ByteArray) (ha : a.length ≤ 140737488355328) :
    CallV Tryz.prog 112 [.lf (.im true (.sl 1 (a.map rS))), .lf (.im true (.sl 1 (b.map rS)))] (· = .bool (decide (a = b))) := by
  refine CallX (fn := Tryz.f112) TTokf mixedf Tryz.func112 rfl rfl rfl rfl rfl fun E c => ?_
  refine vx c [(0, .lf (.im true (.sl 1 (a.map rS)))), (2, .lf (.im true (.sl 1 (b.map rS))))] [] AllP.nil (by kernel_rfl) ?_
  refine xw_seq ?_
  refine vx c [(0, .lf (.im true (.sl 1 (a.map rS)))), (2, .lf (.im true (.sl 1 (b.map rS)))), (20, .bool (decide ((((a.length : Nat) : Int) : Int) ≠ ((b.length : Nat) : Int))))] [(1, .slot (.int ((a.length : Nat) : Int))), (3, .slot (.int ((b.length : Nat) : Int)))] (a2 (ln (l := a) (f := rS)) (a2 (ln (l := b) (f := rS)) AllP.nil)) (by kernel_rfl) ?_
  refine xw_cond (decide ((((a.length : Nat) : Int) : Int) ≠ ((b.length : Nat) : Int))) rfl (fun h1 => ?_) (fun h1 => ?_)
  · have h1 := of_dT h1
    refine vx c [(8, .bool false)] [] AllP.nil (by kernel_rfl) ?_
    exact xret [.lf (.im true (.bool false))] rfl (by kernel_rfl) (retF (ne_len h1))
  · have h1 := of_dF h1
    have hl : a.length = b.length := by omega
    refine xw_skip ?_
    refine xw_seq ?_
    refine vx c [(0, .lf (.im true (.sl 1 (a.map rS)))), (2, .lf (.im true (.sl 1 (b.map rS)))), (10, .int 0)] [] AllP.nil (by kernel_rfl) ?_
    refine xw_block ?_
    refine xw_loop (fun n L => ∃ (i : Nat), L = [(0, .lf (.im true (.sl 1 (a.map rS)))), (2, .lf (.im true (.sl 1 (b.map rS)))), (10, .int ((i : Nat) : Int))] ∧ n = a.length - i ∧ (i ≤ a.length ∧ a.take i = b.take i)) _ ⟨0, rfl, rfl, ⟨by omega, by simp⟩⟩ ?_
    rintro n L ⟨i, rfl, rfl, hP1⟩
    refine xw_seq ?_
    refine vx c [(0, .lf (.im true (.sl 1 (a.map rS)))), (2, .lf (.im true (.sl 1 (b.map rS)))), (10, .int ((i : Nat) : Int)), (28, .bool (decide ((((i : Nat) : Int) : Int) < ((a.length : Nat) : Int))))] [(2, .slot (.int ((a.length : Nat) : Int)))] (a2 (ln (l := a) (f := rS)) AllP.nil) (by kernel_rfl) ?_
    refine xw_cond (decide ((((i : Nat) : Int) : Int) < ((a.length : Nat) : Int))) rfl (fun h2 => ?_) (fun h2 => ?_)
    · have h2 := of_dT h2
      refine xw_skip ?_
      refine xw_seq ?_
      refine xw_block ?_
      obtain ⟨x1, hx1⟩ := get_lt (l := a) (i := i) (by omega)
      obtain ⟨x2, hx2⟩ := get_lt (l := b) (i := i) (by omega)
      refine vx c [(0, .lf (.im true (.sl 1 (a.map rS)))), (2, .lf (.im true (.sl 1 (b.map rS)))), (10, .int ((i : Nat) : Int)), (50, .bool (!(x1.toList == x2.toList)))] [(2, .row (rS x1)), (6, .row (rS x2))] (a2 (ix (f := rS) (l := a) (i := i) hx1) (a2 (ix (f := rS) (l := b) (i := i) hx2) AllP.nil)) (by kernel_rfl) ?_
      refine xw_cond (!(x1.toList == x2.toList)) rfl (fun h3 => ?_) (fun h3 => ?_)
      · have h3 : (x1.toList == x2.toList) = false := of_nT h3
        refine vx c [(8, .bool false)] [] AllP.nil (by kernel_rfl) ?_
        exact xret [.lf (.im true (.bool false))] rfl (by kernel_rfl) (retF (ne_at hx1 hx2 (by intro e; subst e; simp at h3)))
      · have h3 : (x1.toList == x2.toList) = true := of_nF h3
        refine xw_skip ?_
        exact vxe c [(0, .lf (.im true (.sl 1 (a.map rS)))), (2, .lf (.im true (.sl 1 (b.map rS)))), (10, .int ((i + 1 : Nat) : Int))] [(1, .slot (.int ((i + 1 : Nat) : Int)))] (a2 (wI (a := ((i : Nat) : Int) + 1) (b := ((i + 1 : Nat) : Int)) (by omega) (by omega) (by omega)) AllP.nil) (by kernel_rfl) (⟨_, by omega, (i + 1), rfl, rfl, ⟨by omega, (take_succ_eq hx1 hx2).2 ⟨hP1.2, bytes_eq.1 (by simpa using h3)⟩⟩⟩)
    · have h2 := of_dF h2
      refine xw_exit ?_
      refine vx c [(8, .bool true)] [] AllP.nil (by kernel_rfl) ?_
      exact xret [.lf (.im true (.bool true))] rfl (by kernel_rfl) (retT (all_take hl (by omega) hP1.2))
set_option maxRecDepth 100000 in
theorem laws_eqIntS_v (a b : List Int) (ha : a.length ≤ 140737488355328) :
    CallV Tryz.prog 9 [.lf (.im true (.sl 1 (a.map rI))), .lf (.im true (.sl 1 (b.map rI)))] (· = .bool (decide (a = b))) := by
  refine CallX (fn := Tryz.f9) TTokf mixedf Tryz.func9 rfl rfl rfl rfl rfl fun E c => ?_
  refine vx c [(0, .lf (.im true (.sl 1 (a.map rI)))), (2, .lf (.im true (.sl 1 (b.map rI))))] [] AllP.nil (by kernel_rfl) ?_
  refine xw_seq ?_
  refine vx c [(0, .lf (.im true (.sl 1 (a.map rI)))), (2, .lf (.im true (.sl 1 (b.map rI)))), (20, .bool (decide ((((a.length : Nat) : Int) : Int) ≠ ((b.length : Nat) : Int))))] [(1, .slot (.int ((a.length : Nat) : Int))), (3, .slot (.int ((b.length : Nat) : Int)))] (a2 (ln (l := a) (f := rI)) (a2 (ln (l := b) (f := rI)) AllP.nil)) (by kernel_rfl) ?_
  refine xw_cond (decide ((((a.length : Nat) : Int) : Int) ≠ ((b.length : Nat) : Int))) rfl (fun h1 => ?_) (fun h1 => ?_)
  · have h1 := of_dT h1
    refine vx c [(8, .bool false)] [] AllP.nil (by kernel_rfl) ?_
    exact xret [.lf (.im true (.bool false))] rfl (by kernel_rfl) (retF (ne_len h1))
  · have h1 := of_dF h1
    have hl : a.length = b.length := by omega
    refine xw_skip ?_
    refine xw_seq ?_
    refine vx c [(0, .lf (.im true (.sl 1 (a.map rI)))), (2, .lf (.im true (.sl 1 (b.map rI)))), (10, .int 0)] [] AllP.nil (by kernel_rfl) ?_
    refine xw_block ?_
    refine xw_loop (fun n L => ∃ (i : Nat), L = [(0, .lf (.im true (.sl 1 (a.map rI)))), (2, .lf (.im true (.sl 1 (b.map rI)))), (10, .int ((i : Nat) : Int))] ∧ n = a.length - i ∧ (i ≤ a.length ∧ a.take i = b.take i)) _ ⟨0, rfl, rfl, ⟨by omega, by simp⟩⟩ ?_
    rintro n L ⟨i, rfl, rfl, hP1⟩
    refine xw_seq ?_
    refine vx c [(0, .lf (.im true (.sl 1 (a.map rI)))), (2, .lf (.im true (.sl 1 (b.map rI)))), (10, .int ((i : Nat) : Int)), (28, .bool (decide ((((i : Nat) : Int) : Int) < ((a.length : Nat) : Int))))] [(2, .slot (.int ((a.length : Nat) : Int)))] (a2 (ln (l := a) (f := rI)) AllP.nil) (by kernel_rfl) ?_
    refine xw_cond (decide ((((i : Nat) : Int) : Int) < ((a.length : Nat) : Int))) rfl (fun h2 => ?_) (fun h2 => ?_)
    · have h2 := of_dT h2
      refine xw_skip ?_
      refine xw_seq ?_
      refine xw_block ?_
      obtain ⟨x1, hx1⟩ := get_lt (l := a) (i := i) (by omega)
      obtain ⟨x2, hx2⟩ := get_lt (l := b) (i := i) (by omega)
      refine vx c [(0, .lf (.im true (.sl 1 (a.map rI)))), (2, .lf (.im true (.sl 1 (b.map rI)))), (10, .int ((i : Nat) : Int)), (50, .bool (decide ((x1 : Int) ≠ x2)))] [(2, .row (rI x1)), (6, .row (rI x2))] (a2 (ix (f := rI) (l := a) (i := i) hx1) (a2 (ix (f := rI) (l := b) (i := i) hx2) AllP.nil)) (by kernel_rfl) ?_
      refine xw_cond (decide ((x1 : Int) ≠ x2)) rfl (fun h3 => ?_) (fun h3 => ?_)
      · have h3 := of_dT h3
        refine vx c [(8, .bool false)] [] AllP.nil (by kernel_rfl) ?_
        exact xret [.lf (.im true (.bool false))] rfl (by kernel_rfl) (retF (ne_at hx1 hx2 (h3)))
      · have h3 := of_dF h3
        refine xw_skip ?_
        exact vxe c [(0, .lf (.im true (.sl 1 (a.map rI)))), (2, .lf (.im true (.sl 1 (b.map rI)))), (10, .int ((i + 1 : Nat) : Int))] [(1, .slot (.int ((i + 1 : Nat) : Int)))] (a2 (wI (a := ((i : Nat) : Int) + 1) (b := ((i + 1 : Nat) : Int)) (by omega) (by omega) (by omega)) AllP.nil) (by kernel_rfl) (⟨_, by omega, (i + 1), rfl, rfl, ⟨by omega, (take_succ_eq hx1 hx2).2 ⟨hP1.2, by simpa using h3⟩⟩⟩)
    · have h2 := of_dF h2
      refine xw_exit ?_
      refine vx c [(8, .bool true)] [] AllP.nil (by kernel_rfl) ?_
      exact xret [.lf (.im true (.bool true))] rfl (by kernel_rfl) (retT (all_take hl (by omega) hP1.2))
set_option maxRecDepth 100000 in
theorem laws_eqRecord_v (a b : Rec) (hok : a.ok) :
    CallV Tryz.prog 90 [.agg [.im true (.int .i64 a.able), .im true (.sl 1 (a.fields.map rS))], .agg [.im true (.int .i64 b.able), .im true (.sl 1 (b.fields.map rS))]] (· = .bool (decide (a = b))) := by
  refine CallX (fn := Tryz.f90) TTokf mixedf Tryz.func90 rfl rfl rfl rfl rfl fun E c => ?_
  have b1 := hok.1
  refine vx c [(4, .lf (.ptr 2 0)), (5, .cell 2 [.im true (.int .i64 a.able), .im true (.sl 1 (a.fields.map rS))]), (6, .lf (.ptr 3 0)), (7, .cell 3 [.im true (.int .i64 b.able), .im true (.sl 1 (b.fields.map rS))])] [] AllP.nil (by kernel_rfl) ?_
  refine xw_seq ?_
  refine vx c [(4, .lf (.ptr 2 0)), (5, .cell 2 [.im true (.int .i64 a.able), .im true (.sl 1 (a.fields.map rS))]), (6, .lf (.ptr 3 0)), (7, .cell 3 [.im true (.int .i64 b.able), .im true (.sl 1 (b.fields.map rS))]), (18, .bool (decide ((a.able : Int) ≠ b.able)))] [] AllP.nil (by kernel_rfl) ?_
  refine xw_cond (decide ((a.able : Int) ≠ b.able)) rfl (fun h1 => ?_) (fun h1 => ?_)
  · have h1 := of_dT h1
    refine vx c [(8, .bool false)] [] AllP.nil (by kernel_rfl) ?_
    exact xret [.lf (.im true (.bool false))] rfl (by kernel_rfl) (retF (by intro e; rw [e] at h1; exact h1 rfl))
  · have h1 := of_dF h1
    refine xw_skip ?_
    refine xw_seq ?_
    refine vx c [(30, .bool (!(decide (a.fields = b.fields))))] [(4, .ret (.bool (decide (a.fields = b.fields))))] (a2 (cl tx112f (laws_eqStringS_v a.fields b.fields (by assumption))) AllP.nil) (by kernel_rfl) ?_
    refine xw_cond (!(decide (a.fields = b.fields))) rfl (fun h2 => ?_) (fun h2 => ?_)
    · have h2 : (decide (a.fields = b.fields)) = false := of_nT h2
      refine vx c [(8, .bool false)] [] AllP.nil (by kernel_rfl) ?_
      exact xret [.lf (.im true (.bool false))] rfl (by kernel_rfl) (retF (by intro e; rw [e] at h2; simp at h2))
    · have h2 : (decide (a.fields = b.fields)) = true := of_nF h2
      refine xw_skip ?_
      refine vx c [(8, .bool true)] [] AllP.nil (by kernel_rfl) ?_
      exact xret [.lf (.im true (.bool true))] rfl (by kernel_rfl) (retT (by have e0 : a.able = b.able := (by omega); have e1 : a.fields = b.fields := (by simpa using h2); cases a; cases b; simp at *; simp [e0, e1]))
set_option maxRecDepth 100000 in
theorem laws_eqIns_v (a b : Ins) (hok : a.ok) :
    CallV Tryz.prog 124 [.agg [.im true (.str a.op), .im true (.int .i64 a.a), .im true (.int .i64 a.b)], .agg [.im true (.str b.op), .im true (.int .i64 b.a), .im true (.int .i64 b.b)]] (· = .bool (decide (a = b))) := by
  refine CallX (fn := Tryz.f124) TTokf mixedf Tryz.func124 rfl rfl rfl rfl rfl fun E c => ?_
  refine vx c [(4, .lf (.ptr 2 0)), (5, .cell 2 [.im true (.str a.op), .im true (.int .i64 a.a), .im true (.int .i64 a.b)]), (6, .lf (.ptr 3 0)), (7, .cell 3 [.im true (.str b.op), .im true (.int .i64 b.a), .im true (.int .i64 b.b)])] [] AllP.nil (by kernel_rfl) ?_
  refine xw_seq ?_
  refine vx c [(4, .lf (.ptr 2 0)), (5, .cell 2 [.im true (.str a.op), .im true (.int .i64 a.a), .im true (.int .i64 a.b)]), (6, .lf (.ptr 3 0)), (7, .cell 3 [.im true (.str b.op), .im true (.int .i64 b.a), .im true (.int .i64 b.b)]), (18, .bool (!(a.op.toList == b.op.toList)))] [] AllP.nil (by kernel_rfl) ?_
  refine xw_cond (!(a.op.toList == b.op.toList)) rfl (fun h1 => ?_) (fun h1 => ?_)
  · have h1 : (a.op.toList == b.op.toList) = false := of_nT h1
    refine vx c [(8, .bool false)] [] AllP.nil (by kernel_rfl) ?_
    exact xret [.lf (.im true (.bool false))] rfl (by kernel_rfl) (retF (by intro e; rw [e] at h1; simp at h1))
  · have h1 : (a.op.toList == b.op.toList) = true := of_nF h1
    refine xw_skip ?_
    refine xw_seq ?_
    refine vx c [(4, .lf (.ptr 2 0)), (5, .cell 2 [.im true (.str a.op), .im true (.int .i64 a.a), .im true (.int .i64 a.b)]), (6, .lf (.ptr 3 0)), (7, .cell 3 [.im true (.str b.op), .im true (.int .i64 b.a), .im true (.int .i64 b.b)]), (28, .bool (decide ((a.a : Int) ≠ b.a)))] [] AllP.nil (by kernel_rfl) ?_
    refine xw_cond (decide ((a.a : Int) ≠ b.a)) rfl (fun h2 => ?_) (fun h2 => ?_)
    · have h2 := of_dT h2
      refine vx c [(8, .bool false)] [] AllP.nil (by kernel_rfl) ?_
      exact xret [.lf (.im true (.bool false))] rfl (by kernel_rfl) (retF (by intro e; rw [e] at h2; exact h2 rfl))
    · have h2 := of_dF h2
      refine xw_skip ?_
      refine xw_seq ?_
      refine vx c [(38, .bool (decide ((a.b : Int) ≠ b.b)))] [] AllP.nil (by kernel_rfl) ?_
      refine xw_cond (decide ((a.b : Int) ≠ b.b)) rfl (fun h3 => ?_) (fun h3 => ?_)
      · have h3 := of_dT h3
        refine vx c [(8, .bool false)] [] AllP.nil (by kernel_rfl) ?_
        exact xret [.lf (.im true (.bool false))] rfl (by kernel_rfl) (retF (by intro e; rw [e] at h3; exact h3 rfl))
      · have h3 := of_dF h3
        refine xw_skip ?_
        refine vx c [(8, .bool true)] [] AllP.nil (by kernel_rfl) ?_
        exact xret [.lf (.im true (.bool true))] rfl (by kernel_rfl) (retT (by have e0 : a.op = b.op := (by exact bytes_eq.1 (by simpa using h1)); have e1 : a.a = b.a := (by omega); have e2 : a.b = b.b := (by omega); cases a; cases b; simp at *; simp [e0, e1, e2]))
set_option maxRecDepth 100000 in
theorem laws_eqRecordS_v (a b : List Rec) (ha : a.length ≤ 140737488355328) (hok : ∀ x ∈ a, x.ok) :
    CallV Tryz.prog 58 [.lf (.im true (.sl 2 (a.map rRec))), .lf (.im true (.sl 2 (b.map rRec)))] (· = .bool (decide (a = b))) := by
  refine CallX (fn := Tryz.f58) TTokf mixedf Tryz.func58 rfl rfl rfl rfl rfl fun E c => ?_
  refine vx c [(0, .lf (.im true (.sl 2 (a.map rRec)))), (2, .lf (.im true (.sl 2 (b.map rRec))))] [] AllP.nil (by kernel_rfl) ?_
  refine xw_seq ?_
  refine vx c [(0, .lf (.im true (.sl 2 (a.map rRec)))), (2, .lf (.im true (.sl 2 (b.map rRec)))), (20, .bool (decide ((((a.length : Nat) : Int) : Int) ≠ ((b.length : Nat) : Int))))] [(1, .slot (.int ((a.length : Nat) : Int))), (3, .slot (.int ((b.length : Nat) : Int)))] (a2 (ln (l := a) (f := rRec)) (a2 (ln (l := b) (f := rRec)) AllP.nil)) (by kernel_rfl) ?_
  refine xw_cond (decide ((((a.length : Nat) : Int) : Int) ≠ ((b.length : Nat) : Int))) rfl (fun h1 => ?_) (fun h1 => ?_)
  · have h1 := of_dT h1
    refine vx c [(8, .bool false)] [] AllP.nil (by kernel_rfl) ?_
    exact xret [.lf (.im true (.bool false))] rfl (by kernel_rfl) (retF (ne_len h1))
  · have h1 := of_dF h1
    have hl : a.length = b.length := by omega
    refine xw_skip ?_
    refine xw_seq ?_
    refine vx c [(0, .lf (.im true (.sl 2 (a.map rRec)))), (2, .lf (.im true (.sl 2 (b.map rRec)))), (10, .int 0)] [] AllP.nil (by kernel_rfl) ?_
    refine xw_block ?_
    refine xw_loop (fun n L => ∃ (i : Nat), L = [(0, .lf (.im true (.sl 2 (a.map rRec)))), (2, .lf (.im true (.sl 2 (b.map rRec)))), (10, .int ((i : Nat) : Int))] ∧ n = a.length - i ∧ (i ≤ a.length ∧ a.take i = b.take i)) _ ⟨0, rfl, rfl, ⟨by omega, by simp⟩⟩ ?_
    rintro n L ⟨i, rfl, rfl, hP1⟩
    refine xw_seq ?_
    refine vx c [(0, .lf (.im true (.sl 2 (a.map rRec)))), (2, .lf (.im true (.sl 2 (b.map rRec)))), (10, .int ((i : Nat) : Int)), (28, .bool (decide ((((i : Nat) : Int) : Int) < ((a.length : Nat) : Int))))] [(2, .slot (.int ((a.length : Nat) : Int)))] (a2 (ln (l := a) (f := rRec)) AllP.nil) (by kernel_rfl) ?_
    refine xw_cond (decide ((((i : Nat) : Int) : Int) < ((a.length : Nat) : Int))) rfl (fun h2 => ?_) (fun h2 => ?_)
    · have h2 := of_dT h2
      refine xw_skip ?_
      refine xw_seq ?_
      refine xw_block ?_
      obtain ⟨x1, hx1⟩ := get_lt (l := a) (i := i) (by omega)
      obtain ⟨x2, hx2⟩ := get_lt (l := b) (i := i) (by omega)
      refine vx c [(0, .lf (.im true (.sl 2 (a.map rRec)))), (2, .lf (.im true (.sl 2 (b.map rRec)))), (10, .int ((i : Nat) : Int)), (52, .bool (!(decide (x1 = x2))))] [(2, .row (rRec x1)), (6, .row (rRec x2)), (8, .ret (.bool (decide (x1 = x2))))] (a2 (ix (f := rRec) (l := a) (i := i) hx1) (a2 (ix (f := rRec) (l := b) (i := i) hx2) (a2 (cl tx90f (laws_eqRecord_v x1 x2 (by exact mem_at hok hx1))) AllP.nil))) (by kernel_rfl) ?_
      refine xw_cond (!(decide (x1 = x2))) rfl (fun h3 => ?_) (fun h3 => ?_)
      · have h3 : (decide (x1 = x2)) = false := of_nT h3
        refine vx c [(8, .bool false)] [] AllP.nil (by kernel_rfl) ?_
        exact xret [.lf (.im true (.bool false))] rfl (by kernel_rfl) (retF (ne_at hx1 hx2 (by simpa using h3)))
      · have h3 : (decide (x1 = x2)) = true := of_nF h3
        refine xw_skip ?_
        exact vxe c [(0, .lf (.im true (.sl 2 (a.map rRec)))), (2, .lf (.im true (.sl 2 (b.map rRec)))), (10, .int ((i + 1 : Nat) : Int))] [(1, .slot (.int ((i + 1 : Nat) : Int)))] (a2 (wI (a := ((i : Nat) : Int) + 1) (b := ((i + 1 : Nat) : Int)) (by omega) (by omega) (by omega)) AllP.nil) (by kernel_rfl) (⟨_, by omega, (i + 1), rfl, rfl, ⟨by omega, (take_succ_eq hx1 hx2).2 ⟨hP1.2, by simpa using h3⟩⟩⟩)
    · have h2 := of_dF h2
      refine xw_exit ?_
      refine vx c [(8, .bool true)] [] AllP.nil (by kernel_rfl) ?_
      exact xret [.lf (.im true (.bool true))] rfl (by kernel_rfl) (retT (all_take hl (by omega) hP1.2))
set_option maxRecDepth 100000 in
theorem laws_eqInsS_v (a b : List Ins) (ha : a.length ≤ 140737488355328) (hok : ∀ x ∈ a, x.ok) :
    CallV Tryz.prog 113 [.lf (.im true (.sl 3 (a.map rIns))), .lf (.im true (.sl 3 (b.map rIns)))] (· = .bool (decide (a = b))) := by
  refine CallX (fn := Tryz.f113) TTokf mixedf Tryz.func113 rfl rfl rfl rfl rfl fun E c => ?_
  refine vx c [(0, .lf (.im true (.sl 3 (a.map rIns)))), (2, .lf (.im true (.sl 3 (b.map rIns))))] [] AllP.nil (by kernel_rfl) ?_
  refine xw_seq ?_
  refine vx c [(0, .lf (.im true (.sl 3 (a.map rIns)))), (2, .lf (.im true (.sl 3 (b.map rIns)))), (20, .bool (decide ((((a.length : Nat) : Int) : Int) ≠ ((b.length : Nat) : Int))))] [(1, .slot (.int ((a.length : Nat) : Int))), (3, .slot (.int ((b.length : Nat) : Int)))] (a2 (ln (l := a) (f := rIns)) (a2 (ln (l := b) (f := rIns)) AllP.nil)) (by kernel_rfl) ?_
  refine xw_cond (decide ((((a.length : Nat) : Int) : Int) ≠ ((b.length : Nat) : Int))) rfl (fun h1 => ?_) (fun h1 => ?_)
  · have h1 := of_dT h1
    refine vx c [(8, .bool false)] [] AllP.nil (by kernel_rfl) ?_
    exact xret [.lf (.im true (.bool false))] rfl (by kernel_rfl) (retF (ne_len h1))
  · have h1 := of_dF h1
    have hl : a.length = b.length := by omega
    refine xw_skip ?_
    refine xw_seq ?_
    refine vx c [(0, .lf (.im true (.sl 3 (a.map rIns)))), (2, .lf (.im true (.sl 3 (b.map rIns)))), (10, .int 0)] [] AllP.nil (by kernel_rfl) ?_
    refine xw_block ?_
    refine xw_loop (fun n L => ∃ (i : Nat), L = [(0, .lf (.im true (.sl 3 (a.map rIns)))), (2, .lf (.im true (.sl 3 (b.map rIns)))), (10, .int ((i : Nat) : Int))] ∧ n = a.length - i ∧ (i ≤ a.length ∧ a.take i = b.take i)) _ ⟨0, rfl, rfl, ⟨by omega, by simp⟩⟩ ?_
    rintro n L ⟨i, rfl, rfl, hP1⟩
    refine xw_seq ?_
    refine vx c [(0, .lf (.im true (.sl 3 (a.map rIns)))), (2, .lf (.im true (.sl 3 (b.map rIns)))), (10, .int ((i : Nat) : Int)), (28, .bool (decide ((((i : Nat) : Int) : Int) < ((a.length : Nat) : Int))))] [(2, .slot (.int ((a.length : Nat) : Int)))] (a2 (ln (l := a) (f := rIns)) AllP.nil) (by kernel_rfl) ?_
    refine xw_cond (decide ((((i : Nat) : Int) : Int) < ((a.length : Nat) : Int))) rfl (fun h2 => ?_) (fun h2 => ?_)
    · have h2 := of_dT h2
      refine xw_skip ?_
      refine xw_seq ?_
      refine xw_block ?_
      obtain ⟨x1, hx1⟩ := get_lt (l := a) (i := i) (by omega)
      obtain ⟨x2, hx2⟩ := get_lt (l := b) (i := i) (by omega)
      refine vx c [(0, .lf (.im true (.sl 3 (a.map rIns)))), (2, .lf (.im true (.sl 3 (b.map rIns)))), (10, .int ((i : Nat) : Int)), (52, .bool (!(decide (x1 = x2))))] [(2, .row (rIns x1)), (6, .row (rIns x2)), (8, .ret (.bool (decide (x1 = x2))))] (a2 (ix (f := rIns) (l := a) (i := i) hx1) (a2 (ix (f := rIns) (l := b) (i := i) hx2) (a2 (cl tx124f (laws_eqIns_v x1 x2 (by exact mem_at hok hx1))) AllP.nil))) (by kernel_rfl) ?_
      refine xw_cond (!(decide (x1 = x2))) rfl (fun h3 => ?_) (fun h3 => ?_)
      · have h3 : (decide (x1 = x2)) = false := of_nT h3
        refine vx c [(8, .bool false)] [] AllP.nil (by kernel_rfl) ?_
        exact xret [.lf (.im true (.bool false))] rfl (by kernel_rfl) (retF (ne_at hx1 hx2 (by simpa using h3)))
      · have h3 : (decide (x1 = x2)) = true := of_nF h3
        refine xw_skip ?_
        exact vxe c [(0, .lf (.im true (.sl 3 (a.map rIns)))), (2, .lf (.im true (.sl 3 (b.map rIns)))), (10, .int ((i + 1 : Nat) : Int))] [(1, .slot (.int ((i + 1 : Nat) : Int)))] (a2 (wI (a := ((i : Nat) : Int) + 1) (b := ((i + 1 : Nat) : Int)) (by omega) (by omega) (by omega)) AllP.nil) (by kernel_rfl) (⟨_, by omega, (i + 1), rfl, rfl, ⟨by omega, (take_succ_eq hx1 hx2).2 ⟨hP1.2, by simpa using h3⟩⟩⟩)
    · have h2 := of_dF h2
      refine xw_exit ?_
      refine vx c [(8, .bool true)] [] AllP.nil (by kernel_rfl) ?_
      exact xret [.lf (.im true (.bool true))] rfl (by kernel_rfl) (retT (all_take hl (by omega) hP1.2))
set_option maxRecDepth 100000 in
theorem laws_eqFunc_v (a b : Fn) (hok : a.ok) :
    CallV Tryz.prog 91 [.agg [.im true (.int .i64 a.seen), .im true (.sl 1 (a.args.map rS)), .im true (.sl 1 (a.rets.map rS)), .im true (.sl 1 (a.locals.map rS)), .im true (.sl 1 (a.takes.map rI)), .im true (.sl 3 (a.code.map rIns))], .agg [.im true (.int .i64 b.seen), .im true (.sl 1 (b.args.map rS)), .im true (.sl 1 (b.rets.map rS)), .im true (.sl 1 (b.locals.map rS)), .im true (.sl 1 (b.takes.map rI)), .im true (.sl 3 (b.code.map rIns))]] (· = .bool (decide (a = b))) := by
  refine CallX (fn := Tryz.f91) TTokf mixedf Tryz.func91 rfl rfl rfl rfl rfl fun E c => ?_
  have b1 := hok.1.1
  have b2 := hok.2.1.1
  have b3 := hok.2.2.1.1
  have b4 := hok.2.2.2.1
  have b5 := hok.2.2.2.2.1
  have b6 := hok.2.2.2.2.2
  refine vx c [(4, .lf (.ptr 2 0)), (5, .cell 2 [.im true (.int .i64 a.seen), .im true (.sl 1 (a.args.map rS)), .im true (.sl 1 (a.rets.map rS)), .im true (.sl 1 (a.locals.map rS)), .im true (.sl 1 (a.takes.map rI)), .im true (.sl 3 (a.code.map rIns))]), (6, .lf (.ptr 3 0)), (7, .cell 3 [.im true (.int .i64 b.seen), .im true (.sl 1 (b.args.map rS)), .im true (.sl 1 (b.rets.map rS)), .im true (.sl 1 (b.locals.map rS)), .im true (.sl 1 (b.takes.map rI)), .im true (.sl 3 (b.code.map rIns))])] [] AllP.nil (by kernel_rfl) ?_
  refine xw_seq ?_
  refine vx c [(4, .lf (.ptr 2 0)), (5, .cell 2 [.im true (.int .i64 a.seen), .im true (.sl 1 (a.args.map rS)), .im true (.sl 1 (a.rets.map rS)), .im true (.sl 1 (a.locals.map rS)), .im true (.sl 1 (a.takes.map rI)), .im true (.sl 3 (a.code.map rIns))]), (6, .lf (.ptr 3 0)), (7, .cell 3 [.im true (.int .i64 b.seen), .im true (.sl 1 (b.args.map rS)), .im true (.sl 1 (b.rets.map rS)), .im true (.sl 1 (b.locals.map rS)), .im true (.sl 1 (b.takes.map rI)), .im true (.sl 3 (b.code.map rIns))]), (18, .bool (decide ((a.seen : Int) ≠ b.seen)))] [] AllP.nil (by kernel_rfl) ?_
  refine xw_cond (decide ((a.seen : Int) ≠ b.seen)) rfl (fun h1 => ?_) (fun h1 => ?_)
  · have h1 := of_dT h1
    refine vx c [(8, .bool false)] [] AllP.nil (by kernel_rfl) ?_
    exact xret [.lf (.im true (.bool false))] rfl (by kernel_rfl) (retF (by intro e; rw [e] at h1; exact h1 rfl))
  · have h1 := of_dF h1
    refine xw_skip ?_
    refine xw_seq ?_
    refine vx c [(4, .lf (.ptr 2 0)), (5, .cell 2 [.im true (.int .i64 a.seen), .im true (.sl 1 (a.args.map rS)), .im true (.sl 1 (a.rets.map rS)), .im true (.sl 1 (a.locals.map rS)), .im true (.sl 1 (a.takes.map rI)), .im true (.sl 3 (a.code.map rIns))]), (6, .lf (.ptr 3 0)), (7, .cell 3 [.im true (.int .i64 b.seen), .im true (.sl 1 (b.args.map rS)), .im true (.sl 1 (b.rets.map rS)), .im true (.sl 1 (b.locals.map rS)), .im true (.sl 1 (b.takes.map rI)), .im true (.sl 3 (b.code.map rIns))]), (30, .bool (!(decide (a.args = b.args))))] [(4, .ret (.bool (decide (a.args = b.args))))] (a2 (cl tx112f (laws_eqStringS_v a.args b.args (by assumption))) AllP.nil) (by kernel_rfl) ?_
    refine xw_cond (!(decide (a.args = b.args))) rfl (fun h2 => ?_) (fun h2 => ?_)
    · have h2 : (decide (a.args = b.args)) = false := of_nT h2
      refine vx c [(8, .bool false)] [] AllP.nil (by kernel_rfl) ?_
      exact xret [.lf (.im true (.bool false))] rfl (by kernel_rfl) (retF (by intro e; rw [e] at h2; simp at h2))
    · have h2 : (decide (a.args = b.args)) = true := of_nF h2
      refine xw_skip ?_
      refine xw_seq ?_
      refine vx c [(4, .lf (.ptr 2 0)), (5, .cell 2 [.im true (.int .i64 a.seen), .im true (.sl 1 (a.args.map rS)), .im true (.sl 1 (a.rets.map rS)), .im true (.sl 1 (a.locals.map rS)), .im true (.sl 1 (a.takes.map rI)), .im true (.sl 3 (a.code.map rIns))]), (6, .lf (.ptr 3 0)), (7, .cell 3 [.im true (.int .i64 b.seen), .im true (.sl 1 (b.args.map rS)), .im true (.sl 1 (b.rets.map rS)), .im true (.sl 1 (b.locals.map rS)), .im true (.sl 1 (b.takes.map rI)), .im true (.sl 3 (b.code.map rIns))]), (42, .bool (!(decide (a.rets = b.rets))))] [(4, .ret (.bool (decide (a.rets = b.rets))))] (a2 (cl tx112f (laws_eqStringS_v a.rets b.rets (by assumption))) AllP.nil) (by kernel_rfl) ?_
      refine xw_cond (!(decide (a.rets = b.rets))) rfl (fun h3 => ?_) (fun h3 => ?_)
      · have h3 : (decide (a.rets = b.rets)) = false := of_nT h3
        refine vx c [(8, .bool false)] [] AllP.nil (by kernel_rfl) ?_
        exact xret [.lf (.im true (.bool false))] rfl (by kernel_rfl) (retF (by intro e; rw [e] at h3; simp at h3))
      · have h3 : (decide (a.rets = b.rets)) = true := of_nF h3
        refine xw_skip ?_
        refine xw_seq ?_
        refine vx c [(4, .lf (.ptr 2 0)), (5, .cell 2 [.im true (.int .i64 a.seen), .im true (.sl 1 (a.args.map rS)), .im true (.sl 1 (a.rets.map rS)), .im true (.sl 1 (a.locals.map rS)), .im true (.sl 1 (a.takes.map rI)), .im true (.sl 3 (a.code.map rIns))]), (6, .lf (.ptr 3 0)), (7, .cell 3 [.im true (.int .i64 b.seen), .im true (.sl 1 (b.args.map rS)), .im true (.sl 1 (b.rets.map rS)), .im true (.sl 1 (b.locals.map rS)), .im true (.sl 1 (b.takes.map rI)), .im true (.sl 3 (b.code.map rIns))]), (54, .bool (!(decide (a.locals = b.locals))))] [(4, .ret (.bool (decide (a.locals = b.locals))))] (a2 (cl tx112f (laws_eqStringS_v a.locals b.locals (by assumption))) AllP.nil) (by kernel_rfl) ?_
        refine xw_cond (!(decide (a.locals = b.locals))) rfl (fun h4 => ?_) (fun h4 => ?_)
        · have h4 : (decide (a.locals = b.locals)) = false := of_nT h4
          refine vx c [(8, .bool false)] [] AllP.nil (by kernel_rfl) ?_
          exact xret [.lf (.im true (.bool false))] rfl (by kernel_rfl) (retF (by intro e; rw [e] at h4; simp at h4))
        · have h4 : (decide (a.locals = b.locals)) = true := of_nF h4
          refine xw_skip ?_
          refine xw_seq ?_
          refine vx c [(4, .lf (.ptr 2 0)), (5, .cell 2 [.im true (.int .i64 a.seen), .im true (.sl 1 (a.args.map rS)), .im true (.sl 1 (a.rets.map rS)), .im true (.sl 1 (a.locals.map rS)), .im true (.sl 1 (a.takes.map rI)), .im true (.sl 3 (a.code.map rIns))]), (6, .lf (.ptr 3 0)), (7, .cell 3 [.im true (.int .i64 b.seen), .im true (.sl 1 (b.args.map rS)), .im true (.sl 1 (b.rets.map rS)), .im true (.sl 1 (b.locals.map rS)), .im true (.sl 1 (b.takes.map rI)), .im true (.sl 3 (b.code.map rIns))]), (66, .bool (!(decide (a.takes = b.takes))))] [(4, .ret (.bool (decide (a.takes = b.takes))))] (a2 (cl tx9f (laws_eqIntS_v a.takes b.takes (by assumption))) AllP.nil) (by kernel_rfl) ?_
          refine xw_cond (!(decide (a.takes = b.takes))) rfl (fun h5 => ?_) (fun h5 => ?_)
          · have h5 : (decide (a.takes = b.takes)) = false := of_nT h5
            refine vx c [(8, .bool false)] [] AllP.nil (by kernel_rfl) ?_
            exact xret [.lf (.im true (.bool false))] rfl (by kernel_rfl) (retF (by intro e; rw [e] at h5; simp at h5))
          · have h5 : (decide (a.takes = b.takes)) = true := of_nF h5
            refine xw_skip ?_
            refine xw_seq ?_
            refine vx c [(78, .bool (!(decide (a.code = b.code))))] [(4, .ret (.bool (decide (a.code = b.code))))] (a2 (cl tx113f (laws_eqInsS_v a.code b.code (by assumption) (by assumption))) AllP.nil) (by kernel_rfl) ?_
            refine xw_cond (!(decide (a.code = b.code))) rfl (fun h6 => ?_) (fun h6 => ?_)
            · have h6 : (decide (a.code = b.code)) = false := of_nT h6
              refine vx c [(8, .bool false)] [] AllP.nil (by kernel_rfl) ?_
              exact xret [.lf (.im true (.bool false))] rfl (by kernel_rfl) (retF (by intro e; rw [e] at h6; simp at h6))
            · have h6 : (decide (a.code = b.code)) = true := of_nF h6
              refine xw_skip ?_
              refine vx c [(8, .bool true)] [] AllP.nil (by kernel_rfl) ?_
              exact xret [.lf (.im true (.bool true))] rfl (by kernel_rfl) (retT (by have e0 : a.seen = b.seen := (by omega); have e1 : a.args = b.args := (by simpa using h2); have e2 : a.rets = b.rets := (by simpa using h3); have e3 : a.locals = b.locals := (by simpa using h4); have e4 : a.takes = b.takes := (by simpa using h5); have e5 : a.code = b.code := (by simpa using h6); cases a; cases b; simp at *; simp [e0, e1, e2, e3, e4, e5]))
set_option maxRecDepth 100000 in
theorem laws_eqFuncS_v (a b : List Fn) (ha : a.length ≤ 140737488355328) (hok : ∀ x ∈ a, x.ok) :
    CallV Tryz.prog 59 [.lf (.im true (.sl 6 (a.map rFn))), .lf (.im true (.sl 6 (b.map rFn)))] (· = .bool (decide (a = b))) := by
  refine CallX (fn := Tryz.f59) TTokf mixedf Tryz.func59 rfl rfl rfl rfl rfl fun E c => ?_
  refine vx c [(0, .lf (.im true (.sl 6 (a.map rFn)))), (2, .lf (.im true (.sl 6 (b.map rFn))))] [] AllP.nil (by kernel_rfl) ?_
  refine xw_seq ?_
  refine vx c [(0, .lf (.im true (.sl 6 (a.map rFn)))), (2, .lf (.im true (.sl 6 (b.map rFn)))), (20, .bool (decide ((((a.length : Nat) : Int) : Int) ≠ ((b.length : Nat) : Int))))] [(1, .slot (.int ((a.length : Nat) : Int))), (3, .slot (.int ((b.length : Nat) : Int)))] (a2 (ln (l := a) (f := rFn)) (a2 (ln (l := b) (f := rFn)) AllP.nil)) (by kernel_rfl) ?_
  refine xw_cond (decide ((((a.length : Nat) : Int) : Int) ≠ ((b.length : Nat) : Int))) rfl (fun h1 => ?_) (fun h1 => ?_)
  · have h1 := of_dT h1
    refine vx c [(8, .bool false)] [] AllP.nil (by kernel_rfl) ?_
    exact xret [.lf (.im true (.bool false))] rfl (by kernel_rfl) (retF (ne_len h1))
  · have h1 := of_dF h1
    have hl : a.length = b.length := by omega
    refine xw_skip ?_
    refine xw_seq ?_
    refine vx c [(0, .lf (.im true (.sl 6 (a.map rFn)))), (2, .lf (.im true (.sl 6 (b.map rFn)))), (10, .int 0)] [] AllP.nil (by kernel_rfl) ?_
    refine xw_block ?_
    refine xw_loop (fun n L => ∃ (i : Nat), L = [(0, .lf (.im true (.sl 6 (a.map rFn)))), (2, .lf (.im true (.sl 6 (b.map rFn)))), (10, .int ((i : Nat) : Int))] ∧ n = a.length - i ∧ (i ≤ a.length ∧ a.take i = b.take i)) _ ⟨0, rfl, rfl, ⟨by omega, by simp⟩⟩ ?_
    rintro n L ⟨i, rfl, rfl, hP1⟩
    refine xw_seq ?_
    refine vx c [(0, .lf (.im true (.sl 6 (a.map rFn)))), (2, .lf (.im true (.sl 6 (b.map rFn)))), (10, .int ((i : Nat) : Int)), (28, .bool (decide ((((i : Nat) : Int) : Int) < ((a.length : Nat) : Int))))] [(2, .slot (.int ((a.length : Nat) : Int)))] (a2 (ln (l := a) (f := rFn)) AllP.nil) (by kernel_rfl) ?_
    refine xw_cond (decide ((((i : Nat) : Int) : Int) < ((a.length : Nat) : Int))) rfl (fun h2 => ?_) (fun h2 => ?_)
    · have h2 := of_dT h2
      refine xw_skip ?_
      refine xw_seq ?_
      refine xw_block ?_
      obtain ⟨x1, hx1⟩ := get_lt (l := a) (i := i) (by omega)
      obtain ⟨x2, hx2⟩ := get_lt (l := b) (i := i) (by omega)
      refine vx c [(0, .lf (.im true (.sl 6 (a.map rFn)))), (2, .lf (.im true (.sl 6 (b.map rFn)))), (10, .int ((i : Nat) : Int)), (52, .bool (!(decide (x1 = x2))))] [(2, .row (rFn x1)), (6, .row (rFn x2)), (8, .ret (.bool (decide (x1 = x2))))] (a2 (ix (f := rFn) (l := a) (i := i) hx1) (a2 (ix (f := rFn) (l := b) (i := i) hx2) (a2 (cl tx91f (laws_eqFunc_v x1 x2 (by exact mem_at hok hx1))) AllP.nil))) (by kernel_rfl) ?_
      refine xw_cond (!(decide (x1 = x2))) rfl (fun h3 => ?_) (fun h3 => ?_)
      · have h3 : (decide (x1 = x2)) = false := of_nT h3
        refine vx c [(8, .bool false)] [] AllP.nil (by kernel_rfl) ?_
        exact xret [.lf (.im true (.bool false))] rfl (by kernel_rfl) (retF (ne_at hx1 hx2 (by simpa using h3)))
      · have h3 : (decide (x1 = x2)) = true := of_nF h3
        refine xw_skip ?_
        exact vxe c [(0, .lf (.im true (.sl 6 (a.map rFn)))), (2, .lf (.im true (.sl 6 (b.map rFn)))), (10, .int ((i + 1 : Nat) : Int))] [(1, .slot (.int ((i + 1 : Nat) : Int)))] (a2 (wI (a := ((i : Nat) : Int) + 1) (b := ((i + 1 : Nat) : Int)) (by omega) (by omega) (by omega)) AllP.nil) (by kernel_rfl) (⟨_, by omega, (i + 1), rfl, rfl, ⟨by omega, (take_succ_eq hx1 hx2).2 ⟨hP1.2, by simpa using h3⟩⟩⟩)
    · have h2 := of_dF h2
      refine xw_exit ?_
      refine vx c [(8, .bool true)] [] AllP.nil (by kernel_rfl) ?_
      exact xret [.lf (.im true (.bool true))] rfl (by kernel_rfl) (retT (all_take hl (by omega) hP1.2))
set_option maxRecDepth 100000 in
theorem laws_eqModule_v (a b : Mod) (hok : a.ok) :
    CallV Tryz.prog 28 [.agg [.im true (.sl 2 (a.records.map rRec)), .im true (.sl 6 (a.funcs.map rFn)), .im true (.sl 1 (a.friends.map rI))], .agg [.im true (.sl 2 (b.records.map rRec)), .im true (.sl 6 (b.funcs.map rFn)), .im true (.sl 1 (b.friends.map rI))]] (· = .bool (decide (a = b))) := by
  refine CallX (fn := Tryz.f28) TTokf mixedf Tryz.func28 rfl rfl rfl rfl rfl fun E c => ?_
  have b1 := hok.1.1
  have b2 := hok.1.2
  have b3 := hok.2.1.1
  have b4 := hok.2.1.2
  have b5 := hok.2.2
  refine vx c [(4, .lf (.ptr 2 0)), (5, .cell 2 [.im true (.sl 2 (a.records.map rRec)), .im true (.sl 6 (a.funcs.map rFn)), .im true (.sl 1 (a.friends.map rI))]), (6, .lf (.ptr 3 0)), (7, .cell 3 [.im true (.sl 2 (b.records.map rRec)), .im true (.sl 6 (b.funcs.map rFn)), .im true (.sl 1 (b.friends.map rI))])] [] AllP.nil (by kernel_rfl) ?_
  refine xw_seq ?_
  refine vx c [(4, .lf (.ptr 2 0)), (5, .cell 2 [.im true (.sl 2 (a.records.map rRec)), .im true (.sl 6 (a.funcs.map rFn)), .im true (.sl 1 (a.friends.map rI))]), (6, .lf (.ptr 3 0)), (7, .cell 3 [.im true (.sl 2 (b.records.map rRec)), .im true (.sl 6 (b.funcs.map rFn)), .im true (.sl 1 (b.friends.map rI))]), (20, .bool (!(decide (a.records = b.records))))] [(4, .ret (.bool (decide (a.records = b.records))))] (a2 (cl tx58f (laws_eqRecordS_v a.records b.records (by assumption) (by assumption))) AllP.nil) (by kernel_rfl) ?_
  refine xw_cond (!(decide (a.records = b.records))) rfl (fun h1 => ?_) (fun h1 => ?_)
  · have h1 : (decide (a.records = b.records)) = false := of_nT h1
    refine vx c [(8, .bool false)] [] AllP.nil (by kernel_rfl) ?_
    exact xret [.lf (.im true (.bool false))] rfl (by kernel_rfl) (retF (by intro e; rw [e] at h1; simp at h1))
  · have h1 : (decide (a.records = b.records)) = true := of_nF h1
    refine xw_skip ?_
    refine xw_seq ?_
    refine vx c [(4, .lf (.ptr 2 0)), (5, .cell 2 [.im true (.sl 2 (a.records.map rRec)), .im true (.sl 6 (a.funcs.map rFn)), .im true (.sl 1 (a.friends.map rI))]), (6, .lf (.ptr 3 0)), (7, .cell 3 [.im true (.sl 2 (b.records.map rRec)), .im true (.sl 6 (b.funcs.map rFn)), .im true (.sl 1 (b.friends.map rI))]), (32, .bool (!(decide (a.funcs = b.funcs))))] [(4, .ret (.bool (decide (a.funcs = b.funcs))))] (a2 (cl tx59f (laws_eqFuncS_v a.funcs b.funcs (by assumption) (by assumption))) AllP.nil) (by kernel_rfl) ?_
    refine xw_cond (!(decide (a.funcs = b.funcs))) rfl (fun h2 => ?_) (fun h2 => ?_)
    · have h2 : (decide (a.funcs = b.funcs)) = false := of_nT h2
      refine vx c [(8, .bool false)] [] AllP.nil (by kernel_rfl) ?_
      exact xret [.lf (.im true (.bool false))] rfl (by kernel_rfl) (retF (by intro e; rw [e] at h2; simp at h2))
    · have h2 : (decide (a.funcs = b.funcs)) = true := of_nF h2
      refine xw_skip ?_
      refine xw_seq ?_
      refine vx c [(44, .bool (!(decide (a.friends = b.friends))))] [(4, .ret (.bool (decide (a.friends = b.friends))))] (a2 (cl tx9f (laws_eqIntS_v a.friends b.friends (by assumption))) AllP.nil) (by kernel_rfl) ?_
      refine xw_cond (!(decide (a.friends = b.friends))) rfl (fun h3 => ?_) (fun h3 => ?_)
      · have h3 : (decide (a.friends = b.friends)) = false := of_nT h3
        refine vx c [(8, .bool false)] [] AllP.nil (by kernel_rfl) ?_
        exact xret [.lf (.im true (.bool false))] rfl (by kernel_rfl) (retF (by intro e; rw [e] at h3; simp at h3))
      · have h3 : (decide (a.friends = b.friends)) = true := of_nF h3
        refine xw_skip ?_
        refine vx c [(8, .bool true)] [] AllP.nil (by kernel_rfl) ?_
        exact xret [.lf (.im true (.bool true))] rfl (by kernel_rfl) (retT (by have e0 : a.records = b.records := (by simpa using h1); have e1 : a.funcs = b.funcs := (by simpa using h2); have e2 : a.friends = b.friends := (by simpa using h3); cases a; cases b; simp at *; simp [e0, e1, e2]))
set_option maxRecDepth 100000 in
theorem laws_szStringS_v (a : List ByteArray) (hok : okS a) (left : Int) (l0 : 0 ≤ left) (l1 : left ≤ 1048576) :
    CallV Tryz.prog 104 [.lf (.im true (.sl 1 (a.map rS))), .lf (.im true (.int .i64 left))] (· = .int (szR (wS a) left)) := by
  refine CallX (fn := Tryz.f104) TTokf mixedf Tryz.func104 rfl rfl rfl rfl rfl fun E c => ?_
  have ha := hok.1
  refine vx c [(0, .lf (.im true (.sl 1 (a.map rS)))), (2, .int left)] [] AllP.nil (by kernel_rfl) ?_
  refine vx c [(0, .lf (.im true (.sl 1 (a.map rS)))), (2, .int (left - ((a.length : Nat) : Int)))] [(2, .slot (.int ((a.length : Nat) : Int))), (3, .slot (.int (left - ((a.length : Nat) : Int))))] (a2 (ln (l := a) (f := rS)) (a2 (wI (a := left - ((a.length : Nat) : Int)) (b := left - ((a.length : Nat) : Int)) (by omega) (by omega) (by omega)) AllP.nil)) (by kernel_rfl) ?_
  refine xw_seq ?_
  refine vx c [(0, .lf (.im true (.sl 1 (a.map rS)))), (2, .int (left - ((a.length : Nat) : Int))), (22, .bool (decide ((left - ((a.length : Nat) : Int) : Int) < 0)))] [] AllP.nil (by kernel_rfl) ?_
  refine xw_cond (decide ((left - ((a.length : Nat) : Int) : Int) < 0)) rfl (fun h1 => ?_) (fun h1 => ?_)
  · have h1 := of_dT h1
    refine vx c [(8, .int (-1))] [] AllP.nil (by kernel_rfl) ?_
    exact xret [.lf (.im true (.int .i64 (-1)))] rfl (by kernel_rfl) (retI (szR_no (by unfold wS; omega)))
  · have h1 := of_dF h1
    refine xw_skip ?_
    refine xw_seq ?_
    refine vx c [(0, .lf (.im true (.sl 1 (a.map rS)))), (2, .int (left - ((a.length : Nat) : Int))), (10, .int 0)] [] AllP.nil (by kernel_rfl) ?_
    refine xw_block ?_
    refine xw_loop (fun n L => ∃ (i : Nat) (cur : Int), L = [(0, .lf (.im true (.sl 1 (a.map rS)))), (2, .int cur), (10, .int ((i : Nat) : Int))] ∧ n = a.length - i ∧ (i ≤ a.length ∧ 0 ≤ cur ∧ cur = left - ((a.length + sumTo ByteArray.size a i : Nat) : Int))) _ ⟨0, (left - ((a.length : Nat) : Int)), rfl, rfl, ⟨by omega, by omega, by rw [sumTo_zero]; omega⟩⟩ ?_
    rintro n L ⟨i, cur, rfl, rfl, hP1⟩
    refine xw_seq ?_
    refine vx c [(0, .lf (.im true (.sl 1 (a.map rS)))), (2, .int cur), (10, .int ((i : Nat) : Int)), (30, .bool (decide ((((i : Nat) : Int) : Int) < ((a.length : Nat) : Int))))] [(2, .slot (.int ((a.length : Nat) : Int)))] (a2 (ln (l := a) (f := rS)) AllP.nil) (by kernel_rfl) ?_
    refine xw_cond (decide ((((i : Nat) : Int) : Int) < ((a.length : Nat) : Int))) rfl (fun h2 => ?_) (fun h2 => ?_)
    · have h2 := of_dT h2
      refine xw_skip ?_
      refine xw_seq ?_
      refine xw_block ?_
      obtain ⟨x1, hx1⟩ := get_lt (l := a) (i := i) (by omega)
      have bx1 : x1.size ≤ 140737488355328 := hok.2 _ (List.mem_of_getElem? hx1)
      refine vx c [(0, .lf (.im true (.sl 1 (a.map rS)))), (2, .int (cur - ((x1.size : Nat) : Int))), (10, .int ((i : Nat) : Int))] [(3, .row (rS x1)), (6, .slot (.int (cur - ((x1.size : Nat) : Int))))] (a2 (ix (f := rS) (l := a) (i := i) hx1) (a2 (wI (a := cur - ((x1.size : Nat) : Int)) (b := cur - ((x1.size : Nat) : Int)) (by omega) (by omega) (by omega)) AllP.nil)) (by kernel_rfl) ?_
      refine vx c [(0, .lf (.im true (.sl 1 (a.map rS)))), (2, .int (cur - ((x1.size : Nat) : Int))), (10, .int ((i : Nat) : Int)), (52, .bool (decide ((cur - ((x1.size : Nat) : Int) : Int) < 0)))] [] AllP.nil (by kernel_rfl) ?_
      refine xw_cond (decide ((cur - ((x1.size : Nat) : Int) : Int) < 0)) rfl (fun h3 => ?_) (fun h3 => ?_)
      · have h3 := of_dT h3
        refine vx c [(8, .int (-1))] [] AllP.nil (by kernel_rfl) ?_
        exact xret [.lf (.im true (.int .i64 (-1)))] rfl (by kernel_rfl) (retI (szR_no (by have := sumTo_le ByteArray.size a (i + 1); rw [sumTo_succ hx1] at this; unfold wS; omega)))
      · have h3 := of_dF h3
        refine xw_skip ?_
        exact vxe c [(0, .lf (.im true (.sl 1 (a.map rS)))), (2, .int (cur - ((x1.size : Nat) : Int))), (10, .int ((i + 1 : Nat) : Int))] [(1, .slot (.int ((i + 1 : Nat) : Int)))] (a2 (wI (a := ((i : Nat) : Int) + 1) (b := ((i + 1 : Nat) : Int)) (by omega) (by omega) (by omega)) AllP.nil) (by kernel_rfl) (⟨_, by omega, (i + 1), (cur - ((x1.size : Nat) : Int)), rfl, rfl, ⟨by omega, by omega, by rw [sumTo_succ hx1]; omega⟩⟩)
    · have h2 := of_dF h2
      refine xw_exit ?_
      refine vx c [(8, .int cur)] [] AllP.nil (by kernel_rfl) ?_
      exact xret [.lf (.im true (.int .i64 cur))] rfl (by kernel_rfl) (retI (szR_yes hP1.2.1 (by have := hP1.2.2; rw [sumTo_all (by omega)] at this; unfold wS; exact this)))
set_option maxRecDepth 100000 in
theorem laws_szIntS_v (a : List Int) (ha : a.length ≤ 140737488355328) (left : Int) (l0 : 0 ≤ left) (l1 : left ≤ 1048576) :
    CallV Tryz.prog 49 [.lf (.im true (.sl 1 (a.map rI))), .lf (.im true (.int .i64 left))] (· = .int (szR a.length left)) := by
  refine CallX (fn := Tryz.f49) TTokf mixedf Tryz.func49 rfl rfl rfl rfl rfl fun E c => ?_
  refine vx c [(0, .lf (.im true (.sl 1 (a.map rI)))), (2, .int left)] [] AllP.nil (by kernel_rfl) ?_
  refine vx c [(2, .int (left - ((a.length : Nat) : Int)))] [(2, .slot (.int ((a.length : Nat) : Int))), (3, .slot (.int (left - ((a.length : Nat) : Int))))] (a2 (ln (l := a) (f := rI)) (a2 (wI (a := left - ((a.length : Nat) : Int)) (b := left - ((a.length : Nat) : Int)) (by omega) (by omega) (by omega)) AllP.nil)) (by kernel_rfl) ?_
  refine xw_seq ?_
  refine vx c [(2, .int (left - ((a.length : Nat) : Int))), (20, .bool (decide ((left - ((a.length : Nat) : Int) : Int) < 0)))] [] AllP.nil (by kernel_rfl) ?_
  refine xw_cond (decide ((left - ((a.length : Nat) : Int) : Int) < 0)) rfl (fun h1 => ?_) (fun h1 => ?_)
  · have h1 := of_dT h1
    refine vx c [(8, .int (-1))] [] AllP.nil (by kernel_rfl) ?_
    exact xret [.lf (.im true (.int .i64 (-1)))] rfl (by kernel_rfl) (retI (szR_no (by omega)))
  · have h1 := of_dF h1
    refine xw_skip ?_
    refine vx c [(8, .int (left - ((a.length : Nat) : Int)))] [] AllP.nil (by kernel_rfl) ?_
    exact xret [.lf (.im true (.int .i64 (left - ((a.length : Nat) : Int))))] rfl (by kernel_rfl) (retI (szR_yes (by omega) (by omega)))
set_option maxRecDepth 100000 in
theorem laws_szRecord_v (a : Rec) (hok : a.ok) (left : Int) (l0 : 0 ≤ left) (l1 : left ≤ 1048576) :
    CallV Tryz.prog 80 [.agg [.im true (.int .i64 a.able), .im true (.sl 1 (a.fields.map rS))], .lf (.im true (.int .i64 left))] (· = .int (szR (wRec a) left)) := by
  refine CallX (fn := Tryz.f80) TTokf mixedf Tryz.func80 rfl rfl rfl rfl rfl fun E c => ?_
  have b1 := hok
  refine vx c [(2, .int left), (4, .lf (.ptr 2 0)), (5, .cell 2 [.im true (.int .i64 a.able), .im true (.sl 1 (a.fields.map rS))])] [] AllP.nil (by kernel_rfl) ?_
  refine vx c [(2, .int (szR (wS a.fields) left))] [(3, .ret (.int (szR (wS a.fields) left)))] (a2 (cl tx104f (laws_szStringS_v a.fields (by assumption) left (by omega) (by omega))) AllP.nil) (by kernel_rfl) ?_
  refine xw_seq ?_
  refine vx c [(2, .int (szR (wS a.fields) left)), (20, .bool (decide ((szR (wS a.fields) left : Int) < 0)))] [] AllP.nil (by kernel_rfl) ?_
  refine xw_cond (decide ((szR (wS a.fields) left : Int) < 0)) rfl (fun h1 => ?_) (fun h1 => ?_)
  · have h1 := of_dT h1
    refine vx c [(8, .int (-1))] [] AllP.nil (by kernel_rfl) ?_
    exact xret [.lf (.im true (.int .i64 (-1)))] rfl (by kernel_rfl) (retI (szR_no (by have := szR_neg h1; unfold wRec; omega)))
  · have h1 := of_dF h1
    have e1 := szR_pos h1 (by omega)
    refine xw_skip ?_
    refine vx c [(8, .int (szR (wS a.fields) left))] [] AllP.nil (by kernel_rfl) ?_
    exact xret [.lf (.im true (.int .i64 (szR (wS a.fields) left)))] rfl (by kernel_rfl) (retI (szR_yes (by omega) (by unfold wRec; omega)))
set_option maxRecDepth 100000 in
theorem laws_szRecordS_v (a : List Rec) (ha : a.length ≤ 140737488355328) (hok : ∀ x ∈ a, x.ok) (left : Int) (l0 : 0 ≤ left) (l1 : left ≤ 1048576) :
    CallV Tryz.prog 47 [.lf (.im true (.sl 2 (a.map rRec))), .lf (.im true (.int .i64 left))] (· = .int (szR (wRecs a) left)) := by
  refine CallX (fn := Tryz.f47) TTokf mixedf Tryz.func47 rfl rfl rfl rfl rfl fun E c => ?_
  refine vx c [(0, .lf (.im true (.sl 2 (a.map rRec)))), (2, .int left)] [] AllP.nil (by kernel_rfl) ?_
  refine vx c [(0, .lf (.im true (.sl 2 (a.map rRec)))), (2, .int (left - ((a.length : Nat) : Int)))] [(2, .slot (.int ((a.length : Nat) : Int))), (3, .slot (.int (left - ((a.length : Nat) : Int))))] (a2 (ln (l := a) (f := rRec)) (a2 (wI (a := left - ((a.length : Nat) : Int)) (b := left - ((a.length : Nat) : Int)) (by omega) (by omega) (by omega)) AllP.nil)) (by kernel_rfl) ?_
  refine xw_seq ?_
  refine vx c [(0, .lf (.im true (.sl 2 (a.map rRec)))), (2, .int (left - ((a.length : Nat) : Int))), (22, .bool (decide ((left - ((a.length : Nat) : Int) : Int) < 0)))] [] AllP.nil (by kernel_rfl) ?_
  refine xw_cond (decide ((left - ((a.length : Nat) : Int) : Int) < 0)) rfl (fun h1 => ?_) (fun h1 => ?_)
  · have h1 := of_dT h1
    refine vx c [(8, .int (-1))] [] AllP.nil (by kernel_rfl) ?_
    exact xret [.lf (.im true (.int .i64 (-1)))] rfl (by kernel_rfl) (retI (szR_no (by unfold wRecs; omega)))
  · have h1 := of_dF h1
    refine xw_skip ?_
    refine xw_seq ?_
    refine vx c [(0, .lf (.im true (.sl 2 (a.map rRec)))), (2, .int (left - ((a.length : Nat) : Int))), (10, .int 0)] [] AllP.nil (by kernel_rfl) ?_
    refine xw_block ?_
    refine xw_loop (fun n L => ∃ (i : Nat) (cur : Int), L = [(0, .lf (.im true (.sl 2 (a.map rRec)))), (2, .int cur), (10, .int ((i : Nat) : Int))] ∧ n = a.length - i ∧ (i ≤ a.length ∧ 0 ≤ cur ∧ cur = left - ((a.length + sumTo wRec a i : Nat) : Int))) _ ⟨0, (left - ((a.length : Nat) : Int)), rfl, rfl, ⟨by omega, by omega, by rw [sumTo_zero]; omega⟩⟩ ?_
    rintro n L ⟨i, cur, rfl, rfl, hP1⟩
    refine xw_seq ?_
    refine vx c [(0, .lf (.im true (.sl 2 (a.map rRec)))), (2, .int cur), (10, .int ((i : Nat) : Int)), (30, .bool (decide ((((i : Nat) : Int) : Int) < ((a.length : Nat) : Int))))] [(2, .slot (.int ((a.length : Nat) : Int)))] (a2 (ln (l := a) (f := rRec)) AllP.nil) (by kernel_rfl) ?_
    refine xw_cond (decide ((((i : Nat) : Int) : Int) < ((a.length : Nat) : Int))) rfl (fun h2 => ?_) (fun h2 => ?_)
    · have h2 := of_dT h2
      refine xw_skip ?_
      refine xw_seq ?_
      refine xw_block ?_
      obtain ⟨x1, hx1⟩ := get_lt (l := a) (i := i) (by omega)
      refine vx c [(0, .lf (.im true (.sl 2 (a.map rRec)))), (2, .int (szR (wRec x1) cur)), (10, .int ((i : Nat) : Int))] [(2, .row (rRec x1)), (5, .ret (.int (szR (wRec x1) cur)))] (a2 (ix (f := rRec) (l := a) (i := i) hx1) (a2 (cl tx80f (laws_szRecord_v x1 (by exact mem_at hok hx1) cur (by omega) (by omega))) AllP.nil)) (by kernel_rfl) ?_
      refine vx c [(0, .lf (.im true (.sl 2 (a.map rRec)))), (2, .int (szR (wRec x1) cur)), (10, .int ((i : Nat) : Int)), (50, .bool (decide ((szR (wRec x1) cur : Int) < 0)))] [] AllP.nil (by kernel_rfl) ?_
      refine xw_cond (decide ((szR (wRec x1) cur : Int) < 0)) rfl (fun h3 => ?_) (fun h3 => ?_)
      · have h3 := of_dT h3
        refine vx c [(8, .int (-1))] [] AllP.nil (by kernel_rfl) ?_
        exact xret [.lf (.im true (.int .i64 (-1)))] rfl (by kernel_rfl) (retI (szR_no (by have := sumTo_le wRec a (i + 1); rw [sumTo_succ hx1] at this; have := szR_neg h3; unfold wRecs; omega)))
      · have h3 := of_dF h3
        refine xw_skip ?_
        exact vxe c [(0, .lf (.im true (.sl 2 (a.map rRec)))), (2, .int (szR (wRec x1) cur)), (10, .int ((i + 1 : Nat) : Int))] [(1, .slot (.int ((i + 1 : Nat) : Int)))] (a2 (wI (a := ((i : Nat) : Int) + 1) (b := ((i + 1 : Nat) : Int)) (by omega) (by omega) (by omega)) AllP.nil) (by kernel_rfl) (⟨_, by omega, (i + 1), (szR (wRec x1) cur), rfl, rfl, ⟨by omega, by omega, by rw [(szR_pos h3 hP1.2.1).2, sumTo_succ hx1]; omega⟩⟩)
    · have h2 := of_dF h2
      refine xw_exit ?_
      refine vx c [(8, .int cur)] [] AllP.nil (by kernel_rfl) ?_
      exact xret [.lf (.im true (.int .i64 cur))] rfl (by kernel_rfl) (retI (szR_yes hP1.2.1 (by have := hP1.2.2; rw [sumTo_all (by omega)] at this; unfold wRecs; exact this)))
set_option maxRecDepth 100000 in
theorem laws_szIns_v (a : Ins) (hok : a.ok) (left : Int) (l0 : 0 ≤ left) (l1 : left ≤ 1048576) :
    CallV Tryz.prog 118 [.agg [.im true (.str a.op), .im true (.int .i64 a.a), .im true (.int .i64 a.b)], .lf (.im true (.int .i64 left))] (· = .int (szR (wIns a) left)) := by
  refine CallX (fn := Tryz.f118) TTokf mixedf Tryz.func118 rfl rfl rfl rfl rfl fun E c => ?_
  have b1 : a.op.size ≤ 140737488355328 := hok
  refine vx c [(2, .int left), (4, .lf (.ptr 2 0)), (5, .cell 2 [.im true (.str a.op), .im true (.int .i64 a.a), .im true (.int .i64 a.b)])] [] AllP.nil (by kernel_rfl) ?_
  refine vx c [(2, .int (left - ((a.op.size : Nat) : Int)))] [(4, .slot (.int (left - ((a.op.size : Nat) : Int))))] (a2 (wI (a := left - ((a.op.size : Nat) : Int)) (b := left - ((a.op.size : Nat) : Int)) (by omega) (by omega) (by omega)) AllP.nil) (by kernel_rfl) ?_
  refine xw_seq ?_
  refine vx c [(2, .int (left - ((a.op.size : Nat) : Int))), (22, .bool (decide ((left - ((a.op.size : Nat) : Int) : Int) < 0)))] [] AllP.nil (by kernel_rfl) ?_
  refine xw_cond (decide ((left - ((a.op.size : Nat) : Int) : Int) < 0)) rfl (fun h1 => ?_) (fun h1 => ?_)
  · have h1 := of_dT h1
    refine vx c [(8, .int (-1))] [] AllP.nil (by kernel_rfl) ?_
    exact xret [.lf (.im true (.int .i64 (-1)))] rfl (by kernel_rfl) (retI (szR_no (by unfold wIns; omega)))
  · have h1 := of_dF h1
    refine xw_skip ?_
    refine vx c [(8, .int (left - ((a.op.size : Nat) : Int)))] [] AllP.nil (by kernel_rfl) ?_
    exact xret [.lf (.im true (.int .i64 (left - ((a.op.size : Nat) : Int))))] rfl (by kernel_rfl) (retI (szR_yes (by omega) (by unfold wIns; omega)))
set_option maxRecDepth 100000 in
theorem laws_szInsS_v (a : List Ins) (ha : a.length ≤ 140737488355328) (hok : ∀ x ∈ a, x.ok) (left : Int) (l0 : 0 ≤ left) (l1 : left ≤ 1048576) :
    CallV Tryz.prog 105 [.lf (.im true (.sl 3 (a.map rIns))), .lf (.im true (.int .i64 left))] (· = .int (szR (wInss a) left)) := by
  refine CallX (fn := Tryz.f105) TTokf mixedf Tryz.func105 rfl rfl rfl rfl rfl fun E c => ?_
  refine vx c [(0, .lf (.im true (.sl 3 (a.map rIns)))), (2, .int left)] [] AllP.nil (by kernel_rfl) ?_
  refine vx c [(0, .lf (.im true (.sl 3 (a.map rIns)))), (2, .int (left - ((a.length : Nat) : Int)))] [(2, .slot (.int ((a.length : Nat) : Int))), (3, .slot (.int (left - ((a.length : Nat) : Int))))] (a2 (ln (l := a) (f := rIns)) (a2 (wI (a := left - ((a.length : Nat) : Int)) (b := left - ((a.length : Nat) : Int)) (by omega) (by omega) (by omega)) AllP.nil)) (by kernel_rfl) ?_
  refine xw_seq ?_
  refine vx c [(0, .lf (.im true (.sl 3 (a.map rIns)))), (2, .int (left - ((a.length : Nat) : Int))), (22, .bool (decide ((left - ((a.length : Nat) : Int) : Int) < 0)))] [] AllP.nil (by kernel_rfl) ?_
  refine xw_cond (decide ((left - ((a.length : Nat) : Int) : Int) < 0)) rfl (fun h1 => ?_) (fun h1 => ?_)
  · have h1 := of_dT h1
    refine vx c [(8, .int (-1))] [] AllP.nil (by kernel_rfl) ?_
    exact xret [.lf (.im true (.int .i64 (-1)))] rfl (by kernel_rfl) (retI (szR_no (by unfold wInss; omega)))
  · have h1 := of_dF h1
    refine xw_skip ?_
    refine xw_seq ?_
    refine vx c [(0, .lf (.im true (.sl 3 (a.map rIns)))), (2, .int (left - ((a.length : Nat) : Int))), (10, .int 0)] [] AllP.nil (by kernel_rfl) ?_
    refine xw_block ?_
    refine xw_loop (fun n L => ∃ (i : Nat) (cur : Int), L = [(0, .lf (.im true (.sl 3 (a.map rIns)))), (2, .int cur), (10, .int ((i : Nat) : Int))] ∧ n = a.length - i ∧ (i ≤ a.length ∧ 0 ≤ cur ∧ cur = left - ((a.length + sumTo wIns a i : Nat) : Int))) _ ⟨0, (left - ((a.length : Nat) : Int)), rfl, rfl, ⟨by omega, by omega, by rw [sumTo_zero]; omega⟩⟩ ?_
    rintro n L ⟨i, cur, rfl, rfl, hP1⟩
    refine xw_seq ?_
    refine vx c [(0, .lf (.im true (.sl 3 (a.map rIns)))), (2, .int cur), (10, .int ((i : Nat) : Int)), (30, .bool (decide ((((i : Nat) : Int) : Int) < ((a.length : Nat) : Int))))] [(2, .slot (.int ((a.length : Nat) : Int)))] (a2 (ln (l := a) (f := rIns)) AllP.nil) (by kernel_rfl) ?_
    refine xw_cond (decide ((((i : Nat) : Int) : Int) < ((a.length : Nat) : Int))) rfl (fun h2 => ?_) (fun h2 => ?_)
    · have h2 := of_dT h2
      refine xw_skip ?_
      refine xw_seq ?_
      refine xw_block ?_
      obtain ⟨x1, hx1⟩ := get_lt (l := a) (i := i) (by omega)
      refine vx c [(0, .lf (.im true (.sl 3 (a.map rIns)))), (2, .int (szR (wIns x1) cur)), (10, .int ((i : Nat) : Int))] [(2, .row (rIns x1)), (5, .ret (.int (szR (wIns x1) cur)))] (a2 (ix (f := rIns) (l := a) (i := i) hx1) (a2 (cl tx118f (laws_szIns_v x1 (mem_at hok hx1) cur (by omega) (by omega))) AllP.nil)) (by kernel_rfl) ?_
      refine vx c [(0, .lf (.im true (.sl 3 (a.map rIns)))), (2, .int (szR (wIns x1) cur)), (10, .int ((i : Nat) : Int)), (50, .bool (decide ((szR (wIns x1) cur : Int) < 0)))] [] AllP.nil (by kernel_rfl) ?_
      refine xw_cond (decide ((szR (wIns x1) cur : Int) < 0)) rfl (fun h3 => ?_) (fun h3 => ?_)
      · have h3 := of_dT h3
        refine vx c [(8, .int (-1))] [] AllP.nil (by kernel_rfl) ?_
        exact xret [.lf (.im true (.int .i64 (-1)))] rfl (by kernel_rfl) (retI (szR_no (by have := sumTo_le wIns a (i + 1); rw [sumTo_succ hx1] at this; have := szR_neg h3; unfold wInss; omega)))
      · have h3 := of_dF h3
        refine xw_skip ?_
        exact vxe c [(0, .lf (.im true (.sl 3 (a.map rIns)))), (2, .int (szR (wIns x1) cur)), (10, .int ((i + 1 : Nat) : Int))] [(1, .slot (.int ((i + 1 : Nat) : Int)))] (a2 (wI (a := ((i : Nat) : Int) + 1) (b := ((i + 1 : Nat) : Int)) (by omega) (by omega) (by omega)) AllP.nil) (by kernel_rfl) (⟨_, by omega, (i + 1), (szR (wIns x1) cur), rfl, rfl, ⟨by omega, by omega, by rw [(szR_pos h3 hP1.2.1).2, sumTo_succ hx1]; omega⟩⟩)
    · have h2 := of_dF h2
      refine xw_exit ?_
      refine vx c [(8, .int cur)] [] AllP.nil (by kernel_rfl) ?_
      exact xret [.lf (.im true (.int .i64 cur))] rfl (by kernel_rfl) (retI (szR_yes hP1.2.1 (by have := hP1.2.2; rw [sumTo_all (by omega)] at this; unfold wInss; exact this)))
set_option maxRecDepth 100000 in
theorem laws_szFunc_v (a : Fn) (hok : a.ok) (left : Int) (l0 : 0 ≤ left) (l1 : left ≤ 1048576) :
    CallV Tryz.prog 81 [.agg [.im true (.int .i64 a.seen), .im true (.sl 1 (a.args.map rS)), .im true (.sl 1 (a.rets.map rS)), .im true (.sl 1 (a.locals.map rS)), .im true (.sl 1 (a.takes.map rI)), .im true (.sl 3 (a.code.map rIns))], .lf (.im true (.int .i64 left))] (· = .int (szR (wFn a) left)) := by
  refine CallX (fn := Tryz.f81) TTokf mixedf Tryz.func81 rfl rfl rfl rfl rfl fun E c => ?_
  have b1 := hok.1
  have b2 := hok.2.1
  have b3 := hok.2.2.1
  have b4 := hok.2.2.2.1
  have b5 := hok.2.2.2.2.1
  have b6 := hok.2.2.2.2.2
  refine vx c [(2, .int left), (4, .lf (.ptr 2 0)), (5, .cell 2 [.im true (.int .i64 a.seen), .im true (.sl 1 (a.args.map rS)), .im true (.sl 1 (a.rets.map rS)), .im true (.sl 1 (a.locals.map rS)), .im true (.sl 1 (a.takes.map rI)), .im true (.sl 3 (a.code.map rIns))])] [] AllP.nil (by kernel_rfl) ?_
  refine vx c [(2, .int (szR (wS a.args) left)), (4, .lf (.ptr 2 0)), (5, .cell 2 [.im true (.int .i64 a.seen), .im true (.sl 1 (a.args.map rS)), .im true (.sl 1 (a.rets.map rS)), .im true (.sl 1 (a.locals.map rS)), .im true (.sl 1 (a.takes.map rI)), .im true (.sl 3 (a.code.map rIns))])] [(3, .ret (.int (szR (wS a.args) left)))] (a2 (cl tx104f (laws_szStringS_v a.args (by assumption) left (by omega) (by omega))) AllP.nil) (by kernel_rfl) ?_
  refine xw_seq ?_
  refine vx c [(2, .int (szR (wS a.args) left)), (4, .lf (.ptr 2 0)), (5, .cell 2 [.im true (.int .i64 a.seen), .im true (.sl 1 (a.args.map rS)), .im true (.sl 1 (a.rets.map rS)), .im true (.sl 1 (a.locals.map rS)), .im true (.sl 1 (a.takes.map rI)), .im true (.sl 3 (a.code.map rIns))]), (20, .bool (decide ((szR (wS a.args) left : Int) < 0)))] [] AllP.nil (by kernel_rfl) ?_
  refine xw_cond (decide ((szR (wS a.args) left : Int) < 0)) rfl (fun h1 => ?_) (fun h1 => ?_)
  · have h1 := of_dT h1
    refine vx c [(8, .int (-1))] [] AllP.nil (by kernel_rfl) ?_
    exact xret [.lf (.im true (.int .i64 (-1)))] rfl (by kernel_rfl) (retI (szR_no (by have := szR_neg h1; unfold wFn; omega)))
  · have h1 := of_dF h1
    have e1 := szR_pos h1 (by omega)
    refine xw_skip ?_
    refine vx c [(2, .int (szR (wS a.rets) (szR (wS a.args) left))), (4, .lf (.ptr 2 0)), (5, .cell 2 [.im true (.int .i64 a.seen), .im true (.sl 1 (a.args.map rS)), .im true (.sl 1 (a.rets.map rS)), .im true (.sl 1 (a.locals.map rS)), .im true (.sl 1 (a.takes.map rI)), .im true (.sl 3 (a.code.map rIns))])] [(3, .ret (.int (szR (wS a.rets) (szR (wS a.args) left))))] (a2 (cl tx104f (laws_szStringS_v a.rets (by assumption) (szR (wS a.args) left) (by omega) (by omega))) AllP.nil) (by kernel_rfl) ?_
    refine xw_seq ?_
    refine vx c [(2, .int (szR (wS a.rets) (szR (wS a.args) left))), (4, .lf (.ptr 2 0)), (5, .cell 2 [.im true (.int .i64 a.seen), .im true (.sl 1 (a.args.map rS)), .im true (.sl 1 (a.rets.map rS)), .im true (.sl 1 (a.locals.map rS)), .im true (.sl 1 (a.takes.map rI)), .im true (.sl 3 (a.code.map rIns))]), (32, .bool (decide ((szR (wS a.rets) (szR (wS a.args) left) : Int) < 0)))] [] AllP.nil (by kernel_rfl) ?_
    refine xw_cond (decide ((szR (wS a.rets) (szR (wS a.args) left) : Int) < 0)) rfl (fun h2 => ?_) (fun h2 => ?_)
    · have h2 := of_dT h2
      refine vx c [(8, .int (-1))] [] AllP.nil (by kernel_rfl) ?_
      exact xret [.lf (.im true (.int .i64 (-1)))] rfl (by kernel_rfl) (retI (szR_no (by have := szR_neg h2; unfold wFn; omega)))
    · have h2 := of_dF h2
      have e2 := szR_pos h2 (by omega)
      refine xw_skip ?_
      refine vx c [(2, .int (szR (wS a.locals) (szR (wS a.rets) (szR (wS a.args) left)))), (4, .lf (.ptr 2 0)), (5, .cell 2 [.im true (.int .i64 a.seen), .im true (.sl 1 (a.args.map rS)), .im true (.sl 1 (a.rets.map rS)), .im true (.sl 1 (a.locals.map rS)), .im true (.sl 1 (a.takes.map rI)), .im true (.sl 3 (a.code.map rIns))])] [(3, .ret (.int (szR (wS a.locals) (szR (wS a.rets) (szR (wS a.args) left)))))] (a2 (cl tx104f (laws_szStringS_v a.locals (by assumption) (szR (wS a.rets) (szR (wS a.args) left)) (by omega) (by omega))) AllP.nil) (by kernel_rfl) ?_
      refine xw_seq ?_
      refine vx c [(2, .int (szR (wS a.locals) (szR (wS a.rets) (szR (wS a.args) left)))), (4, .lf (.ptr 2 0)), (5, .cell 2 [.im true (.int .i64 a.seen), .im true (.sl 1 (a.args.map rS)), .im true (.sl 1 (a.rets.map rS)), .im true (.sl 1 (a.locals.map rS)), .im true (.sl 1 (a.takes.map rI)), .im true (.sl 3 (a.code.map rIns))]), (44, .bool (decide ((szR (wS a.locals) (szR (wS a.rets) (szR (wS a.args) left)) : Int) < 0)))] [] AllP.nil (by kernel_rfl) ?_
      refine xw_cond (decide ((szR (wS a.locals) (szR (wS a.rets) (szR (wS a.args) left)) : Int) < 0)) rfl (fun h3 => ?_) (fun h3 => ?_)
      · have h3 := of_dT h3
        refine vx c [(8, .int (-1))] [] AllP.nil (by kernel_rfl) ?_
        exact xret [.lf (.im true (.int .i64 (-1)))] rfl (by kernel_rfl) (retI (szR_no (by have := szR_neg h3; unfold wFn; omega)))
      · have h3 := of_dF h3
        have e3 := szR_pos h3 (by omega)
        refine xw_skip ?_
        refine vx c [(2, .int (szR a.takes.length (szR (wS a.locals) (szR (wS a.rets) (szR (wS a.args) left))))), (4, .lf (.ptr 2 0)), (5, .cell 2 [.im true (.int .i64 a.seen), .im true (.sl 1 (a.args.map rS)), .im true (.sl 1 (a.rets.map rS)), .im true (.sl 1 (a.locals.map rS)), .im true (.sl 1 (a.takes.map rI)), .im true (.sl 3 (a.code.map rIns))])] [(3, .ret (.int (szR a.takes.length (szR (wS a.locals) (szR (wS a.rets) (szR (wS a.args) left))))))] (a2 (cl tx49f (laws_szIntS_v a.takes (by assumption) (szR (wS a.locals) (szR (wS a.rets) (szR (wS a.args) left))) (by omega) (by omega))) AllP.nil) (by kernel_rfl) ?_
        refine xw_seq ?_
        refine vx c [(2, .int (szR a.takes.length (szR (wS a.locals) (szR (wS a.rets) (szR (wS a.args) left))))), (4, .lf (.ptr 2 0)), (5, .cell 2 [.im true (.int .i64 a.seen), .im true (.sl 1 (a.args.map rS)), .im true (.sl 1 (a.rets.map rS)), .im true (.sl 1 (a.locals.map rS)), .im true (.sl 1 (a.takes.map rI)), .im true (.sl 3 (a.code.map rIns))]), (56, .bool (decide ((szR a.takes.length (szR (wS a.locals) (szR (wS a.rets) (szR (wS a.args) left))) : Int) < 0)))] [] AllP.nil (by kernel_rfl) ?_
        refine xw_cond (decide ((szR a.takes.length (szR (wS a.locals) (szR (wS a.rets) (szR (wS a.args) left))) : Int) < 0)) rfl (fun h4 => ?_) (fun h4 => ?_)
        · have h4 := of_dT h4
          refine vx c [(8, .int (-1))] [] AllP.nil (by kernel_rfl) ?_
          exact xret [.lf (.im true (.int .i64 (-1)))] rfl (by kernel_rfl) (retI (szR_no (by have := szR_neg h4; unfold wFn; omega)))
        · have h4 := of_dF h4
          have e4 := szR_pos h4 (by omega)
          refine xw_skip ?_
          refine vx c [(2, .int (szR (wInss a.code) (szR a.takes.length (szR (wS a.locals) (szR (wS a.rets) (szR (wS a.args) left))))))] [(3, .ret (.int (szR (wInss a.code) (szR a.takes.length (szR (wS a.locals) (szR (wS a.rets) (szR (wS a.args) left)))))))] (a2 (cl tx105f (laws_szInsS_v a.code (by assumption) (by assumption) (szR a.takes.length (szR (wS a.locals) (szR (wS a.rets) (szR (wS a.args) left)))) (by omega) (by omega))) AllP.nil) (by kernel_rfl) ?_
          refine xw_seq ?_
          refine vx c [(2, .int (szR (wInss a.code) (szR a.takes.length (szR (wS a.locals) (szR (wS a.rets) (szR (wS a.args) left)))))), (68, .bool (decide ((szR (wInss a.code) (szR a.takes.length (szR (wS a.locals) (szR (wS a.rets) (szR (wS a.args) left)))) : Int) < 0)))] [] AllP.nil (by kernel_rfl) ?_
          refine xw_cond (decide ((szR (wInss a.code) (szR a.takes.length (szR (wS a.locals) (szR (wS a.rets) (szR (wS a.args) left)))) : Int) < 0)) rfl (fun h5 => ?_) (fun h5 => ?_)
          · have h5 := of_dT h5
            refine vx c [(8, .int (-1))] [] AllP.nil (by kernel_rfl) ?_
            exact xret [.lf (.im true (.int .i64 (-1)))] rfl (by kernel_rfl) (retI (szR_no (by have := szR_neg h5; unfold wFn; omega)))
          · have h5 := of_dF h5
            have e5 := szR_pos h5 (by omega)
            refine xw_skip ?_
            refine vx c [(8, .int (szR (wInss a.code) (szR a.takes.length (szR (wS a.locals) (szR (wS a.rets) (szR (wS a.args) left))))))] [] AllP.nil (by kernel_rfl) ?_
            exact xret [.lf (.im true (.int .i64 (szR (wInss a.code) (szR a.takes.length (szR (wS a.locals) (szR (wS a.rets) (szR (wS a.args) left)))))))] rfl (by kernel_rfl) (retI (szR_yes (by omega) (by unfold wFn; omega)))
set_option maxRecDepth 100000 in
theorem laws_szFuncS_v (a : List Fn) (ha : a.length ≤ 140737488355328) (hok : ∀ x ∈ a, x.ok) (left : Int) (l0 : 0 ≤ left) (l1 : left ≤ 1048576) :
    CallV Tryz.prog 48 [.lf (.im true (.sl 6 (a.map rFn))), .lf (.im true (.int .i64 left))] (· = .int (szR (wFns a) left)) := by
  refine CallX (fn := Tryz.f48) TTokf mixedf Tryz.func48 rfl rfl rfl rfl rfl fun E c => ?_
  refine vx c [(0, .lf (.im true (.sl 6 (a.map rFn)))), (2, .int left)] [] AllP.nil (by kernel_rfl) ?_
  refine vx c [(0, .lf (.im true (.sl 6 (a.map rFn)))), (2, .int (left - ((a.length : Nat) : Int)))] [(2, .slot (.int ((a.length : Nat) : Int))), (3, .slot (.int (left - ((a.length : Nat) : Int))))] (a2 (ln (l := a) (f := rFn)) (a2 (wI (a := left - ((a.length : Nat) : Int)) (b := left - ((a.length : Nat) : Int)) (by omega) (by omega) (by omega)) AllP.nil)) (by kernel_rfl) ?_
  refine xw_seq ?_
  refine vx c [(0, .lf (.im true (.sl 6 (a.map rFn)))), (2, .int (left - ((a.length : Nat) : Int))), (22, .bool (decide ((left - ((a.length : Nat) : Int) : Int) < 0)))] [] AllP.nil (by kernel_rfl) ?_
  refine xw_cond (decide ((left - ((a.length : Nat) : Int) : Int) < 0)) rfl (fun h1 => ?_) (fun h1 => ?_)
  · have h1 := of_dT h1
    refine vx c [(8, .int (-1))] [] AllP.nil (by kernel_rfl) ?_
    exact xret [.lf (.im true (.int .i64 (-1)))] rfl (by kernel_rfl) (retI (szR_no (by unfold wFns; omega)))
  · have h1 := of_dF h1
    refine xw_skip ?_
    refine xw_seq ?_
    refine vx c [(0, .lf (.im true (.sl 6 (a.map rFn)))), (2, .int (left - ((a.length : Nat) : Int))), (10, .int 0)] [] AllP.nil (by kernel_rfl) ?_
    refine xw_block ?_
    refine xw_loop (fun n L => ∃ (i : Nat) (cur : Int), L = [(0, .lf (.im true (.sl 6 (a.map rFn)))), (2, .int cur), (10, .int ((i : Nat) : Int))] ∧ n = a.length - i ∧ (i ≤ a.length ∧ 0 ≤ cur ∧ cur = left - ((a.length + sumTo wFn a i : Nat) : Int))) _ ⟨0, (left - ((a.length : Nat) : Int)), rfl, rfl, ⟨by omega, by omega, by rw [sumTo_zero]; omega⟩⟩ ?_
    rintro n L ⟨i, cur, rfl, rfl, hP1⟩
    refine xw_seq ?_
    refine vx c [(0, .lf (.im true (.sl 6 (a.map rFn)))), (2, .int cur), (10, .int ((i : Nat) : Int)), (30, .bool (decide ((((i : Nat) : Int) : Int) < ((a.length : Nat) : Int))))] [(2, .slot (.int ((a.length : Nat) : Int)))] (a2 (ln (l := a) (f := rFn)) AllP.nil) (by kernel_rfl) ?_
    refine xw_cond (decide ((((i : Nat) : Int) : Int) < ((a.length : Nat) : Int))) rfl (fun h2 => ?_) (fun h2 => ?_)
    · have h2 := of_dT h2
      refine xw_skip ?_
      refine xw_seq ?_
      refine xw_block ?_
      obtain ⟨x1, hx1⟩ := get_lt (l := a) (i := i) (by omega)
      refine vx c [(0, .lf (.im true (.sl 6 (a.map rFn)))), (2, .int (szR (wFn x1) cur)), (10, .int ((i : Nat) : Int))] [(2, .row (rFn x1)), (5, .ret (.int (szR (wFn x1) cur)))] (a2 (ix (f := rFn) (l := a) (i := i) hx1) (a2 (cl tx81f (laws_szFunc_v x1 (by exact mem_at hok hx1) cur (by omega) (by omega))) AllP.nil)) (by kernel_rfl) ?_
      refine vx c [(0, .lf (.im true (.sl 6 (a.map rFn)))), (2, .int (szR (wFn x1) cur)), (10, .int ((i : Nat) : Int)), (50, .bool (decide ((szR (wFn x1) cur : Int) < 0)))] [] AllP.nil (by kernel_rfl) ?_
      refine xw_cond (decide ((szR (wFn x1) cur : Int) < 0)) rfl (fun h3 => ?_) (fun h3 => ?_)
      · have h3 := of_dT h3
        refine vx c [(8, .int (-1))] [] AllP.nil (by kernel_rfl) ?_
        exact xret [.lf (.im true (.int .i64 (-1)))] rfl (by kernel_rfl) (retI (szR_no (by have := sumTo_le wFn a (i + 1); rw [sumTo_succ hx1] at this; have := szR_neg h3; unfold wFns; omega)))
      · have h3 := of_dF h3
        refine xw_skip ?_
        exact vxe c [(0, .lf (.im true (.sl 6 (a.map rFn)))), (2, .int (szR (wFn x1) cur)), (10, .int ((i + 1 : Nat) : Int))] [(1, .slot (.int ((i + 1 : Nat) : Int)))] (a2 (wI (a := ((i : Nat) : Int) + 1) (b := ((i + 1 : Nat) : Int)) (by omega) (by omega) (by omega)) AllP.nil) (by kernel_rfl) (⟨_, by omega, (i + 1), (szR (wFn x1) cur), rfl, rfl, ⟨by omega, by omega, by rw [(szR_pos h3 hP1.2.1).2, sumTo_succ hx1]; omega⟩⟩)
    · have h2 := of_dF h2
      refine xw_exit ?_
      refine vx c [(8, .int cur)] [] AllP.nil (by kernel_rfl) ?_
      exact xret [.lf (.im true (.int .i64 cur))] rfl (by kernel_rfl) (retI (szR_yes hP1.2.1 (by have := hP1.2.2; rw [sumTo_all (by omega)] at this; unfold wFns; exact this)))
set_option maxRecDepth 100000 in
theorem laws_szModule_v (a : Mod) (hok : a.ok) (left : Int) (l0 : 0 ≤ left) (l1 : left ≤ 1048576) :
    CallV Tryz.prog 21 [.agg [.im true (.sl 2 (a.records.map rRec)), .im true (.sl 6 (a.funcs.map rFn)), .im true (.sl 1 (a.friends.map rI))], .lf (.im true (.int .i64 left))] (· = .int (szR (wMod a) left)) := by
  refine CallX (fn := Tryz.f21) TTokf mixedf Tryz.func21 rfl rfl rfl rfl rfl fun E c => ?_
  have b1 := hok.1.1
  have b2 := hok.1.2
  have b3 := hok.2.1.1
  have b4 := hok.2.1.2
  have b5 := hok.2.2
  refine vx c [(2, .int left), (4, .lf (.ptr 2 0)), (5, .cell 2 [.im true (.sl 2 (a.records.map rRec)), .im true (.sl 6 (a.funcs.map rFn)), .im true (.sl 1 (a.friends.map rI))])] [] AllP.nil (by kernel_rfl) ?_
  refine vx c [(2, .int (szR (wRecs a.records) left)), (4, .lf (.ptr 2 0)), (5, .cell 2 [.im true (.sl 2 (a.records.map rRec)), .im true (.sl 6 (a.funcs.map rFn)), .im true (.sl 1 (a.friends.map rI))])] [(3, .ret (.int (szR (wRecs a.records) left)))] (a2 (cl tx47f (laws_szRecordS_v a.records (by assumption) (by assumption) left (by omega) (by omega))) AllP.nil) (by kernel_rfl) ?_
  refine xw_seq ?_
  refine vx c [(2, .int (szR (wRecs a.records) left)), (4, .lf (.ptr 2 0)), (5, .cell 2 [.im true (.sl 2 (a.records.map rRec)), .im true (.sl 6 (a.funcs.map rFn)), .im true (.sl 1 (a.friends.map rI))]), (20, .bool (decide ((szR (wRecs a.records) left : Int) < 0)))] [] AllP.nil (by kernel_rfl) ?_
  refine xw_cond (decide ((szR (wRecs a.records) left : Int) < 0)) rfl (fun h1 => ?_) (fun h1 => ?_)
  · have h1 := of_dT h1
    refine vx c [(8, .int (-1))] [] AllP.nil (by kernel_rfl) ?_
    exact xret [.lf (.im true (.int .i64 (-1)))] rfl (by kernel_rfl) (retI (szR_no (by have := szR_neg h1; unfold wMod; omega)))
  · have h1 := of_dF h1
    have e1 := szR_pos h1 (by omega)
    refine xw_skip ?_
    refine vx c [(2, .int (szR (wFns a.funcs) (szR (wRecs a.records) left))), (4, .lf (.ptr 2 0)), (5, .cell 2 [.im true (.sl 2 (a.records.map rRec)), .im true (.sl 6 (a.funcs.map rFn)), .im true (.sl 1 (a.friends.map rI))])] [(3, .ret (.int (szR (wFns a.funcs) (szR (wRecs a.records) left))))] (a2 (cl tx48f (laws_szFuncS_v a.funcs (by assumption) (by assumption) (szR (wRecs a.records) left) (by omega) (by omega))) AllP.nil) (by kernel_rfl) ?_
    refine xw_seq ?_
    refine vx c [(2, .int (szR (wFns a.funcs) (szR (wRecs a.records) left))), (4, .lf (.ptr 2 0)), (5, .cell 2 [.im true (.sl 2 (a.records.map rRec)), .im true (.sl 6 (a.funcs.map rFn)), .im true (.sl 1 (a.friends.map rI))]), (32, .bool (decide ((szR (wFns a.funcs) (szR (wRecs a.records) left) : Int) < 0)))] [] AllP.nil (by kernel_rfl) ?_
    refine xw_cond (decide ((szR (wFns a.funcs) (szR (wRecs a.records) left) : Int) < 0)) rfl (fun h2 => ?_) (fun h2 => ?_)
    · have h2 := of_dT h2
      refine vx c [(8, .int (-1))] [] AllP.nil (by kernel_rfl) ?_
      exact xret [.lf (.im true (.int .i64 (-1)))] rfl (by kernel_rfl) (retI (szR_no (by have := szR_neg h2; unfold wMod; omega)))
    · have h2 := of_dF h2
      have e2 := szR_pos h2 (by omega)
      refine xw_skip ?_
      refine vx c [(2, .int (szR a.friends.length (szR (wFns a.funcs) (szR (wRecs a.records) left))))] [(3, .ret (.int (szR a.friends.length (szR (wFns a.funcs) (szR (wRecs a.records) left)))))] (a2 (cl tx49f (laws_szIntS_v a.friends (by assumption) (szR (wFns a.funcs) (szR (wRecs a.records) left)) (by omega) (by omega))) AllP.nil) (by kernel_rfl) ?_
      refine xw_seq ?_
      refine vx c [(2, .int (szR a.friends.length (szR (wFns a.funcs) (szR (wRecs a.records) left)))), (44, .bool (decide ((szR a.friends.length (szR (wFns a.funcs) (szR (wRecs a.records) left)) : Int) < 0)))] [] AllP.nil (by kernel_rfl) ?_
      refine xw_cond (decide ((szR a.friends.length (szR (wFns a.funcs) (szR (wRecs a.records) left)) : Int) < 0)) rfl (fun h3 => ?_) (fun h3 => ?_)
      · have h3 := of_dT h3
        refine vx c [(8, .int (-1))] [] AllP.nil (by kernel_rfl) ?_
        exact xret [.lf (.im true (.int .i64 (-1)))] rfl (by kernel_rfl) (retI (szR_no (by have := szR_neg h3; unfold wMod; omega)))
      · have h3 := of_dF h3
        have e3 := szR_pos h3 (by omega)
        refine xw_skip ?_
        refine vx c [(8, .int (szR a.friends.length (szR (wFns a.funcs) (szR (wRecs a.records) left))))] [] AllP.nil (by kernel_rfl) ?_
        exact xret [.lf (.im true (.int .i64 (szR a.friends.length (szR (wFns a.funcs) (szR (wRecs a.records) left)))))] rfl (by kernel_rfl) (retI (szR_yes (by omega) (by unfold wMod; omega)))
set_option maxRecDepth 100000 in
theorem laws_toStringS_v (a : List ByteArray) (ha : a.length ≤ 1048576) :
    CallV Tryz.prog 109 [.lf (.im true (.sl 1 (a.map rS)))] (· = .lf (.im true (.sl 1 (a.map rS)))) := by
  refine CallX (fn := Tryz.f109) TTokf mixedf Tryz.func109 rfl rfl rfl rfl rfl fun E c => ?_
  refine vx c [(0, .lf (.im true (.sl 1 (a.map rS))))] [] AllP.nil (by kernel_rfl) ?_
  refine vx c [(0, .lf (.im true (.sl 1 (a.map rS)))), (6, .lf (.u 7 0 9 1 (fillTo rS a [.str ⟨#[]⟩] 0)))] [(1, .slot (.int ((a.length : Nat) : Int))), (2, .slot (.lf (.u 7 0 9 1 (fillTo rS a [.str ⟨#[]⟩] 0))))] (a2 (ln (l := a) (f := rS)) (a2 (a1 (show (List.replicate a.length [.str ⟨#[]⟩] : List (List SV)) = fillTo rS a [.str ⟨#[]⟩] 0 by exact fillTo_zero rS a [.str ⟨#[]⟩])) (a2 (mk (n := a.length) (b := 16) (by omega) (by unfold maxLen; omega)) AllP.nil))) (by kernel_rfl) ?_
  refine xw_seq ?_
  refine vx c [(0, .lf (.im true (.sl 1 (a.map rS)))), (6, .lf (.u 7 0 9 1 (fillTo rS a [.str ⟨#[]⟩] 0))), (8, .int 0)] [] AllP.nil (by kernel_rfl) ?_
  refine xw_block ?_
  refine xw_loop (fun n L => ∃ (i : Nat), L = [(0, .lf (.im true (.sl 1 (a.map rS)))), (6, .lf (.u 7 0 9 1 (fillTo rS a [.str ⟨#[]⟩] i))), (8, .int ((i : Nat) : Int))] ∧ n = a.length - i ∧ (i ≤ a.length)) _ ⟨0, rfl, rfl, by omega⟩ ?_
  rintro n L ⟨i, rfl, rfl, hP1⟩
  refine xw_seq ?_
  refine vx c [(0, .lf (.im true (.sl 1 (a.map rS)))), (6, .lf (.u 7 0 9 1 (fillTo rS a [.str ⟨#[]⟩] i))), (8, .int ((i : Nat) : Int)), (22, .bool (decide ((((i : Nat) : Int) : Int) < ((a.length : Nat) : Int))))] [(2, .slot (.int ((a.length : Nat) : Int)))] (a2 (ln (l := a) (f := rS)) AllP.nil) (by kernel_rfl) ?_
  refine xw_cond (decide ((((i : Nat) : Int) : Int) < ((a.length : Nat) : Int))) rfl (fun h1 => ?_) (fun h1 => ?_)
  · have h1 := of_dT h1
    refine xw_skip ?_
    refine xw_seq ?_
    refine xw_block ?_
    obtain ⟨x1, hx1⟩ := get_lt (l := a) (i := i) (by omega)
    refine vxe c [(0, .lf (.im true (.sl 1 (a.map rS)))), (6, .lf (.u 7 0 9 1 (fillTo rS a [.str ⟨#[]⟩] (i + 1)))), (8, .int ((i : Nat) : Int))] [(4, .row (rS x1)), (7, .elem i 0 [.str ⟨#[]⟩] (some (fillTo rS a [.str ⟨#[]⟩] (i + 1))))] (a2 (ix (f := rS) (l := a) (i := i) hx1) (a2 (ixu (i := i) (n := (fillTo rS a [.str ⟨#[]⟩] i).length) (by rw [fillTo_len (by omega)]; omega)) (a2 (fillU (f := rS) (l := a) (zs := [.str ⟨#[]⟩]) (i := i) (sz := 1) hx1 rfl rfl) AllP.nil))) (by kernel_rfl) ?_
    exact vxe c [(0, .lf (.im true (.sl 1 (a.map rS)))), (6, .lf (.u 7 0 9 1 (fillTo rS a [.str ⟨#[]⟩] (i + 1)))), (8, .int ((i + 1 : Nat) : Int))] [(1, .slot (.int ((i + 1 : Nat) : Int)))] (a2 (wI (a := ((i : Nat) : Int) + 1) (b := ((i + 1 : Nat) : Int)) (by omega) (by omega) (by omega)) AllP.nil) (by kernel_rfl) (⟨_, by omega, (i + 1), rfl, rfl, by omega⟩)
  · have h1 := of_dF h1
    refine xw_exit ?_
    refine xw_fr 3 [(0, .lf (.im true (.sl 1 (a.map rS)))), (6, .lf (.im true (.sl 1 (fillTo rS a [.str ⟨#[]⟩] i)))), (8, .int ((i : Nat) : Int)), (22, .bool (decide ((((i : Nat) : Int) : Int) < ((a.length : Nat) : Int))))] (by kernel_rfl) ?_
    refine vx c [(4, .lf (.im true (.sl 1 (fillTo rS a [.str ⟨#[]⟩] i))))] [] AllP.nil (by kernel_rfl) ?_
    exact xret [.lf (.im true (.sl 1 (fillTo rS a [.str ⟨#[]⟩] i)))] rfl (by kernel_rfl) (retL (by rw [show i = a.length by omega]; exact fillTo_all rS a [.str ⟨#[]⟩]))
set_option maxRecDepth 100000 in
theorem laws_toIntS_v (a : List Int) (ha : a.length ≤ 1048576) :
    CallV Tryz.prog 56 [.lf (.im true (.sl 1 (a.map rI)))] (· = .lf (.im true (.sl 1 (a.map rI)))) := by
  refine CallX (fn := Tryz.f56) TTokf mixedf Tryz.func56 rfl rfl rfl rfl rfl fun E c => ?_
  refine vx c [(0, .lf (.im true (.sl 1 (a.map rI))))] [] AllP.nil (by kernel_rfl) ?_
  refine vx c [(0, .lf (.im true (.sl 1 (a.map rI)))), (6, .lf (.u 7 0 3 1 (fillTo rI a [.int .i64 0] 0)))] [(1, .slot (.int ((a.length : Nat) : Int))), (2, .slot (.lf (.u 7 0 3 1 (fillTo rI a [.int .i64 0] 0))))] (a2 (ln (l := a) (f := rI)) (a2 (a1 (show (List.replicate a.length [.int .i64 0] : List (List SV)) = fillTo rI a [.int .i64 0] 0 by exact fillTo_zero rI a [.int .i64 0])) (a2 (mk (n := a.length) (b := 8) (by omega) (by unfold maxLen; omega)) AllP.nil))) (by kernel_rfl) ?_
  refine xw_seq ?_
  refine vx c [(0, .lf (.im true (.sl 1 (a.map rI)))), (6, .lf (.u 7 0 3 1 (fillTo rI a [.int .i64 0] 0))), (8, .int 0)] [] AllP.nil (by kernel_rfl) ?_
  refine xw_block ?_
  refine xw_loop (fun n L => ∃ (i : Nat), L = [(0, .lf (.im true (.sl 1 (a.map rI)))), (6, .lf (.u 7 0 3 1 (fillTo rI a [.int .i64 0] i))), (8, .int ((i : Nat) : Int))] ∧ n = a.length - i ∧ (i ≤ a.length)) _ ⟨0, rfl, rfl, by omega⟩ ?_
  rintro n L ⟨i, rfl, rfl, hP1⟩
  refine xw_seq ?_
  refine vx c [(0, .lf (.im true (.sl 1 (a.map rI)))), (6, .lf (.u 7 0 3 1 (fillTo rI a [.int .i64 0] i))), (8, .int ((i : Nat) : Int)), (22, .bool (decide ((((i : Nat) : Int) : Int) < ((a.length : Nat) : Int))))] [(2, .slot (.int ((a.length : Nat) : Int)))] (a2 (ln (l := a) (f := rI)) AllP.nil) (by kernel_rfl) ?_
  refine xw_cond (decide ((((i : Nat) : Int) : Int) < ((a.length : Nat) : Int))) rfl (fun h1 => ?_) (fun h1 => ?_)
  · have h1 := of_dT h1
    refine xw_skip ?_
    refine xw_seq ?_
    refine xw_block ?_
    obtain ⟨x1, hx1⟩ := get_lt (l := a) (i := i) (by omega)
    refine vxe c [(0, .lf (.im true (.sl 1 (a.map rI)))), (6, .lf (.u 7 0 3 1 (fillTo rI a [.int .i64 0] (i + 1)))), (8, .int ((i : Nat) : Int))] [(4, .row (rI x1)), (7, .elem i 0 [.int .i64 0] (some (fillTo rI a [.int .i64 0] (i + 1))))] (a2 (ix (f := rI) (l := a) (i := i) hx1) (a2 (ixu (i := i) (n := (fillTo rI a [.int .i64 0] i).length) (by rw [fillTo_len (by omega)]; omega)) (a2 (fillU (f := rI) (l := a) (zs := [.int .i64 0]) (i := i) (sz := 1) hx1 rfl rfl) AllP.nil))) (by kernel_rfl) ?_
    exact vxe c [(0, .lf (.im true (.sl 1 (a.map rI)))), (6, .lf (.u 7 0 3 1 (fillTo rI a [.int .i64 0] (i + 1)))), (8, .int ((i + 1 : Nat) : Int))] [(1, .slot (.int ((i + 1 : Nat) : Int)))] (a2 (wI (a := ((i : Nat) : Int) + 1) (b := ((i + 1 : Nat) : Int)) (by omega) (by omega) (by omega)) AllP.nil) (by kernel_rfl) (⟨_, by omega, (i + 1), rfl, rfl, by omega⟩)
  · have h1 := of_dF h1
    refine xw_exit ?_
    refine xw_fr 3 [(0, .lf (.im true (.sl 1 (a.map rI)))), (6, .lf (.im true (.sl 1 (fillTo rI a [.int .i64 0] i)))), (8, .int ((i : Nat) : Int)), (22, .bool (decide ((((i : Nat) : Int) : Int) < ((a.length : Nat) : Int))))] (by kernel_rfl) ?_
    refine vx c [(4, .lf (.im true (.sl 1 (fillTo rI a [.int .i64 0] i))))] [] AllP.nil (by kernel_rfl) ?_
    exact xret [.lf (.im true (.sl 1 (fillTo rI a [.int .i64 0] i)))] rfl (by kernel_rfl) (retL (by rw [show i = a.length by omega]; exact fillTo_all rI a [.int .i64 0]))
set_option maxRecDepth 100000 in
theorem laws_toRecord_v (a : Rec) (hok : a.small) :
    CallV Tryz.prog 86 [.agg [.im true (.int .i64 a.able), .im true (.sl 1 (a.fields.map rS))]] (· = .agg [.im true (.int .i64 a.able), .im true (.sl 1 (a.fields.map rS))]) := by
  refine CallX (fn := Tryz.f86) TTokf mixedf Tryz.func86 rfl rfl rfl rfl rfl fun E c => ?_
  have b1 : a.fields.length ≤ 1048576 := hok
  refine vx c [(2, .lf (.ptr 1 0)), (3, .cell 1 [.im true (.int .i64 a.able), .im true (.sl 1 (a.fields.map rS))]), (4, .lf (.ptr 2 0)), (5, .cell 2 [.im true (.int .i64 0), .nil])] [] AllP.nil (by kernel_rfl) ?_
  refine vx c [(2, .lf (.ptr 1 0)), (3, .cell 1 [.im true (.int .i64 a.able), .im true (.sl 1 (a.fields.map rS))]), (4, .lf (.ptr 2 0)), (5, .cell 2 [.im true (.int .i64 0), .nil]), (6, .lf (.ptr 3 0)), (7, .cell 3 [.im true (.int .i64 0), .nil])] [] AllP.nil (by kernel_rfl) ?_
  refine vx c [(2, .lf (.ptr 1 0)), (3, .cell 1 [.im true (.int .i64 a.able), .im true (.sl 1 (a.fields.map rS))]), (4, .lf (.ptr 2 0)), (5, .cell 2 [.im true (.int .i64 0), .nil]), (6, .lf (.ptr 3 0)), (7, .cell 3 [.im true (.int .i64 a.able), .nil])] [] AllP.nil (by kernel_rfl) ?_
  refine vx c [(4, .lf (.ptr 2 0)), (5, .cell 2 [.im true (.int .i64 0), .nil]), (6, .lf (.ptr 3 0)), (7, .cell 3 [.im true (.int .i64 a.able), .im true (.sl 1 (a.fields.map rS))])] [(2, .ret (.lf (.im true (.sl 1 (a.fields.map rS)))))] (a2 (cl tx109f (laws_toStringS_v a.fields (by assumption))) AllP.nil) (by kernel_rfl) ?_
  refine vx c [(4, .lf (.ptr 2 0)), (5, .cell 2 [.im true (.int .i64 a.able), .im true (.sl 1 (a.fields.map rS))])] [] AllP.nil (by kernel_rfl) ?_
  exact xret [.agg [.im true (.int .i64 a.able), .im true (.sl 1 (a.fields.map rS))]] rfl (by kernel_rfl) (rfl)
set_option maxRecDepth 100000 in
theorem laws_toRecordS_v (a : List Rec) (ha : a.length ≤ 1048576) (hok : ∀ x ∈ a, x.small) :
    CallV Tryz.prog 54 [.lf (.im true (.sl 2 (a.map rRec)))] (· = .lf (.im true (.sl 2 (a.map rRec)))) := by
  refine CallX (fn := Tryz.f54) TTokf mixedf Tryz.func54 rfl rfl rfl rfl rfl fun E c => ?_
  refine vx c [(0, .lf (.im true (.sl 2 (a.map rRec))))] [] AllP.nil (by kernel_rfl) ?_
  refine vx c [(0, .lf (.im true (.sl 2 (a.map rRec)))), (6, .lf (.u 7 0 66 2 (fillTo rRec a [.int .i64 0, .sl 1 []] 0)))] [(1, .slot (.int ((a.length : Nat) : Int))), (2, .slot (.lf (.u 7 0 66 2 (fillTo rRec a [.int .i64 0, .sl 1 []] 0))))] (a2 (ln (l := a) (f := rRec)) (a2 (a1 (show (List.replicate a.length [.int .i64 0, .sl 1 []] : List (List SV)) = fillTo rRec a [.int .i64 0, .sl 1 []] 0 by exact fillTo_zero rRec a [.int .i64 0, .sl 1 []])) (a2 (mk (n := a.length) (b := 32) (by omega) (by unfold maxLen; omega)) AllP.nil))) (by kernel_rfl) ?_
  refine xw_seq ?_
  refine vx c [(0, .lf (.im true (.sl 2 (a.map rRec)))), (6, .lf (.u 7 0 66 2 (fillTo rRec a [.int .i64 0, .sl 1 []] 0))), (8, .int 0)] [] AllP.nil (by kernel_rfl) ?_
  refine xw_block ?_
  refine xw_loop (fun n L => ∃ (i : Nat), L = [(0, .lf (.im true (.sl 2 (a.map rRec)))), (6, .lf (.u 7 0 66 2 (fillTo rRec a [.int .i64 0, .sl 1 []] i))), (8, .int ((i : Nat) : Int))] ∧ n = a.length - i ∧ (i ≤ a.length)) _ ⟨0, rfl, rfl, by omega⟩ ?_
  rintro n L ⟨i, rfl, rfl, hP1⟩
  refine xw_seq ?_
  refine vx c [(0, .lf (.im true (.sl 2 (a.map rRec)))), (6, .lf (.u 7 0 66 2 (fillTo rRec a [.int .i64 0, .sl 1 []] i))), (8, .int ((i : Nat) : Int)), (22, .bool (decide ((((i : Nat) : Int) : Int) < ((a.length : Nat) : Int))))] [(2, .slot (.int ((a.length : Nat) : Int)))] (a2 (ln (l := a) (f := rRec)) AllP.nil) (by kernel_rfl) ?_
  refine xw_cond (decide ((((i : Nat) : Int) : Int) < ((a.length : Nat) : Int))) rfl (fun h1 => ?_) (fun h1 => ?_)
  · have h1 := of_dT h1
    refine xw_skip ?_
    refine xw_seq ?_
    refine xw_block ?_
    obtain ⟨x1, hx1⟩ := get_lt (l := a) (i := i) (by omega)
    refine vxe c [(0, .lf (.im true (.sl 2 (a.map rRec)))), (6, .lf (.u 7 0 66 2 (fillTo rRec a [.int .i64 0, .sl 1 []] (i + 1)))), (8, .int ((i : Nat) : Int))] [(4, .row (rRec x1)), (6, .ret (.agg [.im true (.int .i64 x1.able), .im true (.sl 1 (x1.fields.map rS))])), (8, .elem i 0 [.int .i64 0, .sl 1 []] (some (fillTo rRec a [.int .i64 0, .sl 1 []] (i + 1))))] (a2 (ix (f := rRec) (l := a) (i := i) hx1) (a2 (cl tx86f (laws_toRecord_v x1 (by exact mem_at hok hx1))) (a2 (ixu (i := i) (n := (fillTo rRec a [.int .i64 0, .sl 1 []] i).length) (by rw [fillTo_len (by omega)]; omega)) (a2 (fillU (f := rRec) (l := a) (zs := [.int .i64 0, .sl 1 []]) (i := i) (sz := 2) hx1 rfl rfl) AllP.nil)))) (by kernel_rfl) ?_
    exact vxe c [(0, .lf (.im true (.sl 2 (a.map rRec)))), (6, .lf (.u 7 0 66 2 (fillTo rRec a [.int .i64 0, .sl 1 []] (i + 1)))), (8, .int ((i + 1 : Nat) : Int))] [(1, .slot (.int ((i + 1 : Nat) : Int)))] (a2 (wI (a := ((i : Nat) : Int) + 1) (b := ((i + 1 : Nat) : Int)) (by omega) (by omega) (by omega)) AllP.nil) (by kernel_rfl) (⟨_, by omega, (i + 1), rfl, rfl, by omega⟩)
  · have h1 := of_dF h1
    refine xw_exit ?_
    refine xw_fr 3 [(0, .lf (.im true (.sl 2 (a.map rRec)))), (6, .lf (.im true (.sl 2 (fillTo rRec a [.int .i64 0, .sl 1 []] i)))), (8, .int ((i : Nat) : Int)), (22, .bool (decide ((((i : Nat) : Int) : Int) < ((a.length : Nat) : Int))))] (by kernel_rfl) ?_
    refine vx c [(4, .lf (.im true (.sl 2 (fillTo rRec a [.int .i64 0, .sl 1 []] i))))] [] AllP.nil (by kernel_rfl) ?_
    exact xret [.lf (.im true (.sl 2 (fillTo rRec a [.int .i64 0, .sl 1 []] i)))] rfl (by kernel_rfl) (retL (by rw [show i = a.length by omega]; exact fillTo_all rRec a [.int .i64 0, .sl 1 []]))
set_option maxRecDepth 100000 in
theorem laws_toIns_v (a : Ins) :
    CallV Tryz.prog 123 [.agg [.im true (.str a.op), .im true (.int .i64 a.a), .im true (.int .i64 a.b)]] (· = .agg [.im true (.str a.op), .im true (.int .i64 a.a), .im true (.int .i64 a.b)]) := by
  refine CallX (fn := Tryz.f123) TTokf mixedf Tryz.func123 rfl rfl rfl rfl rfl fun E c => ?_
  refine vx c [(2, .lf (.ptr 1 0)), (3, .cell 1 [.im true (.str a.op), .im true (.int .i64 a.a), .im true (.int .i64 a.b)]), (4, .lf (.ptr 2 0)), (5, .cell 2 [.im true (.str ⟨#[]⟩), .im true (.int .i64 0), .im true (.int .i64 0)])] [] AllP.nil (by kernel_rfl) ?_
  refine vx c [(2, .lf (.ptr 1 0)), (3, .cell 1 [.im true (.str a.op), .im true (.int .i64 a.a), .im true (.int .i64 a.b)]), (4, .lf (.ptr 2 0)), (5, .cell 2 [.im true (.str ⟨#[]⟩), .im true (.int .i64 0), .im true (.int .i64 0)]), (6, .lf (.ptr 3 0)), (7, .cell 3 [.im true (.str ⟨#[]⟩), .im true (.int .i64 0), .im true (.int .i64 0)])] [] AllP.nil (by kernel_rfl) ?_
  refine vx c [(2, .lf (.ptr 1 0)), (3, .cell 1 [.im true (.str a.op), .im true (.int .i64 a.a), .im true (.int .i64 a.b)]), (4, .lf (.ptr 2 0)), (5, .cell 2 [.im true (.str ⟨#[]⟩), .im true (.int .i64 0), .im true (.int .i64 0)]), (6, .lf (.ptr 3 0)), (7, .cell 3 [.im true (.str a.op), .im true (.int .i64 0), .im true (.int .i64 0)])] [] AllP.nil (by kernel_rfl) ?_
  refine vx c [(2, .lf (.ptr 1 0)), (3, .cell 1 [.im true (.str a.op), .im true (.int .i64 a.a), .im true (.int .i64 a.b)]), (4, .lf (.ptr 2 0)), (5, .cell 2 [.im true (.str ⟨#[]⟩), .im true (.int .i64 0), .im true (.int .i64 0)]), (6, .lf (.ptr 3 0)), (7, .cell 3 [.im true (.str a.op), .im true (.int .i64 a.a), .im true (.int .i64 0)])] [] AllP.nil (by kernel_rfl) ?_
  refine vx c [(4, .lf (.ptr 2 0)), (5, .cell 2 [.im true (.str ⟨#[]⟩), .im true (.int .i64 0), .im true (.int .i64 0)]), (6, .lf (.ptr 3 0)), (7, .cell 3 [.im true (.str a.op), .im true (.int .i64 a.a), .im true (.int .i64 a.b)])] [] AllP.nil (by kernel_rfl) ?_
  refine vx c [(4, .lf (.ptr 2 0)), (5, .cell 2 [.im true (.str a.op), .im true (.int .i64 a.a), .im true (.int .i64 a.b)])] [] AllP.nil (by kernel_rfl) ?_
  exact xret [.agg [.im true (.str a.op), .im true (.int .i64 a.a), .im true (.int .i64 a.b)]] rfl (by kernel_rfl) (rfl)
set_option maxRecDepth 100000 in
theorem laws_toInsS_v (a : List Ins) (ha : a.length ≤ 1048576) :
    CallV Tryz.prog 110 [.lf (.im true (.sl 3 (a.map rIns)))] (· = .lf (.im true (.sl 3 (a.map rIns)))) := by
  refine CallX (fn := Tryz.f110) TTokf mixedf Tryz.func110 rfl rfl rfl rfl rfl fun E c => ?_
  refine vx c [(0, .lf (.im true (.sl 3 (a.map rIns))))] [] AllP.nil (by kernel_rfl) ?_
  refine vx c [(0, .lf (.im true (.sl 3 (a.map rIns)))), (6, .lf (.u 7 0 80 3 (fillTo rIns a [.str ⟨#[]⟩, .int .i64 0, .int .i64 0] 0)))] [(1, .slot (.int ((a.length : Nat) : Int))), (2, .slot (.lf (.u 7 0 80 3 (fillTo rIns a [.str ⟨#[]⟩, .int .i64 0, .int .i64 0] 0))))] (a2 (ln (l := a) (f := rIns)) (a2 (a1 (show (List.replicate a.length [.str ⟨#[]⟩, .int .i64 0, .int .i64 0] : List (List SV)) = fillTo rIns a [.str ⟨#[]⟩, .int .i64 0, .int .i64 0] 0 by exact fillTo_zero rIns a [.str ⟨#[]⟩, .int .i64 0, .int .i64 0])) (a2 (mk (n := a.length) (b := 32) (by omega) (by unfold maxLen; omega)) AllP.nil))) (by kernel_rfl) ?_
  refine xw_seq ?_
  refine vx c [(0, .lf (.im true (.sl 3 (a.map rIns)))), (6, .lf (.u 7 0 80 3 (fillTo rIns a [.str ⟨#[]⟩, .int .i64 0, .int .i64 0] 0))), (8, .int 0)] [] AllP.nil (by kernel_rfl) ?_
  refine xw_block ?_
  refine xw_loop (fun n L => ∃ (i : Nat), L = [(0, .lf (.im true (.sl 3 (a.map rIns)))), (6, .lf (.u 7 0 80 3 (fillTo rIns a [.str ⟨#[]⟩, .int .i64 0, .int .i64 0] i))), (8, .int ((i : Nat) : Int))] ∧ n = a.length - i ∧ (i ≤ a.length)) _ ⟨0, rfl, rfl, by omega⟩ ?_
  rintro n L ⟨i, rfl, rfl, hP1⟩
  refine xw_seq ?_
  refine vx c [(0, .lf (.im true (.sl 3 (a.map rIns)))), (6, .lf (.u 7 0 80 3 (fillTo rIns a [.str ⟨#[]⟩, .int .i64 0, .int .i64 0] i))), (8, .int ((i : Nat) : Int)), (22, .bool (decide ((((i : Nat) : Int) : Int) < ((a.length : Nat) : Int))))] [(2, .slot (.int ((a.length : Nat) : Int)))] (a2 (ln (l := a) (f := rIns)) AllP.nil) (by kernel_rfl) ?_
  refine xw_cond (decide ((((i : Nat) : Int) : Int) < ((a.length : Nat) : Int))) rfl (fun h1 => ?_) (fun h1 => ?_)
  · have h1 := of_dT h1
    refine xw_skip ?_
    refine xw_seq ?_
    refine xw_block ?_
    obtain ⟨x1, hx1⟩ := get_lt (l := a) (i := i) (by omega)
    refine vxe c [(0, .lf (.im true (.sl 3 (a.map rIns)))), (6, .lf (.u 7 0 80 3 (fillTo rIns a [.str ⟨#[]⟩, .int .i64 0, .int .i64 0] (i + 1)))), (8, .int ((i : Nat) : Int))] [(4, .row (rIns x1)), (6, .ret (.agg [.im true (.str x1.op), .im true (.int .i64 x1.a), .im true (.int .i64 x1.b)])), (8, .elem i 0 [.str ⟨#[]⟩, .int .i64 0, .int .i64 0] (some (fillTo rIns a [.str ⟨#[]⟩, .int .i64 0, .int .i64 0] (i + 1))))] (a2 (ix (f := rIns) (l := a) (i := i) hx1) (a2 (cl tx123f (laws_toIns_v x1)) (a2 (ixu (i := i) (n := (fillTo rIns a [.str ⟨#[]⟩, .int .i64 0, .int .i64 0] i).length) (by rw [fillTo_len (by omega)]; omega)) (a2 (fillU (f := rIns) (l := a) (zs := [.str ⟨#[]⟩, .int .i64 0, .int .i64 0]) (i := i) (sz := 3) hx1 rfl rfl) AllP.nil)))) (by kernel_rfl) ?_
    exact vxe c [(0, .lf (.im true (.sl 3 (a.map rIns)))), (6, .lf (.u 7 0 80 3 (fillTo rIns a [.str ⟨#[]⟩, .int .i64 0, .int .i64 0] (i + 1)))), (8, .int ((i + 1 : Nat) : Int))] [(1, .slot (.int ((i + 1 : Nat) : Int)))] (a2 (wI (a := ((i : Nat) : Int) + 1) (b := ((i + 1 : Nat) : Int)) (by omega) (by omega) (by omega)) AllP.nil) (by kernel_rfl) (⟨_, by omega, (i + 1), rfl, rfl, by omega⟩)
  · have h1 := of_dF h1
    refine xw_exit ?_
    refine xw_fr 3 [(0, .lf (.im true (.sl 3 (a.map rIns)))), (6, .lf (.im true (.sl 3 (fillTo rIns a [.str ⟨#[]⟩, .int .i64 0, .int .i64 0] i)))), (8, .int ((i : Nat) : Int)), (22, .bool (decide ((((i : Nat) : Int) : Int) < ((a.length : Nat) : Int))))] (by kernel_rfl) ?_
    refine vx c [(4, .lf (.im true (.sl 3 (fillTo rIns a [.str ⟨#[]⟩, .int .i64 0, .int .i64 0] i))))] [] AllP.nil (by kernel_rfl) ?_
    exact xret [.lf (.im true (.sl 3 (fillTo rIns a [.str ⟨#[]⟩, .int .i64 0, .int .i64 0] i)))] rfl (by kernel_rfl) (retL (by rw [show i = a.length by omega]; exact fillTo_all rIns a [.str ⟨#[]⟩, .int .i64 0, .int .i64 0]))
set_option maxRecDepth 100000 in
theorem laws_toFunc_v (a : Fn) (hok : a.small) :
    CallV Tryz.prog 87 [.agg [.im true (.int .i64 a.seen), .im true (.sl 1 (a.args.map rS)), .im true (.sl 1 (a.rets.map rS)), .im true (.sl 1 (a.locals.map rS)), .im true (.sl 1 (a.takes.map rI)), .im true (.sl 3 (a.code.map rIns))]] (· = .agg [.im true (.int .i64 a.seen), .im true (.sl 1 (a.args.map rS)), .im true (.sl 1 (a.rets.map rS)), .im true (.sl 1 (a.locals.map rS)), .im true (.sl 1 (a.takes.map rI)), .im true (.sl 3 (a.code.map rIns))]) := by
  refine CallX (fn := Tryz.f87) TTokf mixedf Tryz.func87 rfl rfl rfl rfl rfl fun E c => ?_
  obtain ⟨b1, b2, b3, b4, b5⟩ := hok
  refine vx c [(2, .lf (.ptr 1 0)), (3, .cell 1 [.im true (.int .i64 a.seen), .im true (.sl 1 (a.args.map rS)), .im true (.sl 1 (a.rets.map rS)), .im true (.sl 1 (a.locals.map rS)), .im true (.sl 1 (a.takes.map rI)), .im true (.sl 3 (a.code.map rIns))]), (4, .lf (.ptr 2 0)), (5, .cell 2 [.im true (.int .i64 0), .nil, .nil, .nil, .nil, .nil])] [] AllP.nil (by kernel_rfl) ?_
  refine vx c [(2, .lf (.ptr 1 0)), (3, .cell 1 [.im true (.int .i64 a.seen), .im true (.sl 1 (a.args.map rS)), .im true (.sl 1 (a.rets.map rS)), .im true (.sl 1 (a.locals.map rS)), .im true (.sl 1 (a.takes.map rI)), .im true (.sl 3 (a.code.map rIns))]), (4, .lf (.ptr 2 0)), (5, .cell 2 [.im true (.int .i64 0), .nil, .nil, .nil, .nil, .nil]), (6, .lf (.ptr 3 0)), (7, .cell 3 [.im true (.int .i64 0), .nil, .nil, .nil, .nil, .nil])] [] AllP.nil (by kernel_rfl) ?_
  refine vx c [(2, .lf (.ptr 1 0)), (3, .cell 1 [.im true (.int .i64 a.seen), .im true (.sl 1 (a.args.map rS)), .im true (.sl 1 (a.rets.map rS)), .im true (.sl 1 (a.locals.map rS)), .im true (.sl 1 (a.takes.map rI)), .im true (.sl 3 (a.code.map rIns))]), (4, .lf (.ptr 2 0)), (5, .cell 2 [.im true (.int .i64 0), .nil, .nil, .nil, .nil, .nil]), (6, .lf (.ptr 3 0)), (7, .cell 3 [.im true (.int .i64 a.seen), .nil, .nil, .nil, .nil, .nil])] [] AllP.nil (by kernel_rfl) ?_
  refine vx c [(2, .lf (.ptr 1 0)), (3, .cell 1 [.im true (.int .i64 a.seen), .im true (.sl 1 (a.args.map rS)), .im true (.sl 1 (a.rets.map rS)), .im true (.sl 1 (a.locals.map rS)), .im true (.sl 1 (a.takes.map rI)), .im true (.sl 3 (a.code.map rIns))]), (4, .lf (.ptr 2 0)), (5, .cell 2 [.im true (.int .i64 0), .nil, .nil, .nil, .nil, .nil]), (6, .lf (.ptr 3 0)), (7, .cell 3 [.im true (.int .i64 a.seen), .im true (.sl 1 (a.args.map rS)), .nil, .nil, .nil, .nil])] [(2, .ret (.lf (.im true (.sl 1 (a.args.map rS)))))] (a2 (cl tx109f (laws_toStringS_v a.args (by assumption))) AllP.nil) (by kernel_rfl) ?_
  refine vx c [(2, .lf (.ptr 1 0)), (3, .cell 1 [.im true (.int .i64 a.seen), .im true (.sl 1 (a.args.map rS)), .im true (.sl 1 (a.rets.map rS)), .im true (.sl 1 (a.locals.map rS)), .im true (.sl 1 (a.takes.map rI)), .im true (.sl 3 (a.code.map rIns))]), (4, .lf (.ptr 2 0)), (5, .cell 2 [.im true (.int .i64 0), .nil, .nil, .nil, .nil, .nil]), (6, .lf (.ptr 3 0)), (7, .cell 3 [.im true (.int .i64 a.seen), .im true (.sl 1 (a.args.map rS)), .im true (.sl 1 (a.rets.map rS)), .nil, .nil, .nil])] [(2, .ret (.lf (.im true (.sl 1 (a.rets.map rS)))))] (a2 (cl tx109f (laws_toStringS_v a.rets (by assumption))) AllP.nil) (by kernel_rfl) ?_
  refine vx c [(2, .lf (.ptr 1 0)), (3, .cell 1 [.im true (.int .i64 a.seen), .im true (.sl 1 (a.args.map rS)), .im true (.sl 1 (a.rets.map rS)), .im true (.sl 1 (a.locals.map rS)), .im true (.sl 1 (a.takes.map rI)), .im true (.sl 3 (a.code.map rIns))]), (4, .lf (.ptr 2 0)), (5, .cell 2 [.im true (.int .i64 0), .nil, .nil, .nil, .nil, .nil]), (6, .lf (.ptr 3 0)), (7, .cell 3 [.im true (.int .i64 a.seen), .im true (.sl 1 (a.args.map rS)), .im true (.sl 1 (a.rets.map rS)), .im true (.sl 1 (a.locals.map rS)), .nil, .nil])] [(2, .ret (.lf (.im true (.sl 1 (a.locals.map rS)))))] (a2 (cl tx109f (laws_toStringS_v a.locals (by assumption))) AllP.nil) (by kernel_rfl) ?_
  refine vx c [(2, .lf (.ptr 1 0)), (3, .cell 1 [.im true (.int .i64 a.seen), .im true (.sl 1 (a.args.map rS)), .im true (.sl 1 (a.rets.map rS)), .im true (.sl 1 (a.locals.map rS)), .im true (.sl 1 (a.takes.map rI)), .im true (.sl 3 (a.code.map rIns))]), (4, .lf (.ptr 2 0)), (5, .cell 2 [.im true (.int .i64 0), .nil, .nil, .nil, .nil, .nil]), (6, .lf (.ptr 3 0)), (7, .cell 3 [.im true (.int .i64 a.seen), .im true (.sl 1 (a.args.map rS)), .im true (.sl 1 (a.rets.map rS)), .im true (.sl 1 (a.locals.map rS)), .im true (.sl 1 (a.takes.map rI)), .nil])] [(2, .ret (.lf (.im true (.sl 1 (a.takes.map rI)))))] (a2 (cl tx56f (laws_toIntS_v a.takes (by assumption))) AllP.nil) (by kernel_rfl) ?_
  refine vx c [(4, .lf (.ptr 2 0)), (5, .cell 2 [.im true (.int .i64 0), .nil, .nil, .nil, .nil, .nil]), (6, .lf (.ptr 3 0)), (7, .cell 3 [.im true (.int .i64 a.seen), .im true (.sl 1 (a.args.map rS)), .im true (.sl 1 (a.rets.map rS)), .im true (.sl 1 (a.locals.map rS)), .im true (.sl 1 (a.takes.map rI)), .im true (.sl 3 (a.code.map rIns))])] [(2, .ret (.lf (.im true (.sl 3 (a.code.map rIns)))))] (a2 (cl tx110f (laws_toInsS_v a.code (by assumption))) AllP.nil) (by kernel_rfl) ?_
  refine vx c [(4, .lf (.ptr 2 0)), (5, .cell 2 [.im true (.int .i64 a.seen), .im true (.sl 1 (a.args.map rS)), .im true (.sl 1 (a.rets.map rS)), .im true (.sl 1 (a.locals.map rS)), .im true (.sl 1 (a.takes.map rI)), .im true (.sl 3 (a.code.map rIns))])] [] AllP.nil (by kernel_rfl) ?_
  exact xret [.agg [.im true (.int .i64 a.seen), .im true (.sl 1 (a.args.map rS)), .im true (.sl 1 (a.rets.map rS)), .im true (.sl 1 (a.locals.map rS)), .im true (.sl 1 (a.takes.map rI)), .im true (.sl 3 (a.code.map rIns))]] rfl (by kernel_rfl) (rfl)
set_option maxRecDepth 100000 in
theorem laws_toFuncS_v (a : List Fn) (ha : a.length ≤ 1048576) (hok : ∀ x ∈ a, x.small) :
    CallV Tryz.prog 55 [.lf (.im true (.sl 6 (a.map rFn)))] (· = .lf (.im true (.sl 6 (a.map rFn)))) := by
  refine CallX (fn := Tryz.f55) TTokf mixedf Tryz.func55 rfl rfl rfl rfl rfl fun E c => ?_
  refine vx c [(0, .lf (.im true (.sl 6 (a.map rFn))))] [] AllP.nil (by kernel_rfl) ?_
  refine vx c [(0, .lf (.im true (.sl 6 (a.map rFn)))), (6, .lf (.u 7 0 74 6 (fillTo rFn a [.int .i64 0, .sl 1 [], .sl 1 [], .sl 1 [], .sl 1 [], .sl 3 []] 0)))] [(1, .slot (.int ((a.length : Nat) : Int))), (2, .slot (.lf (.u 7 0 74 6 (fillTo rFn a [.int .i64 0, .sl 1 [], .sl 1 [], .sl 1 [], .sl 1 [], .sl 3 []] 0))))] (a2 (ln (l := a) (f := rFn)) (a2 (a1 (show (List.replicate a.length [.int .i64 0, .sl 1 [], .sl 1 [], .sl 1 [], .sl 1 [], .sl 3 []] : List (List SV)) = fillTo rFn a [.int .i64 0, .sl 1 [], .sl 1 [], .sl 1 [], .sl 1 [], .sl 3 []] 0 by exact fillTo_zero rFn a [.int .i64 0, .sl 1 [], .sl 1 [], .sl 1 [], .sl 1 [], .sl 3 []])) (a2 (mk (n := a.length) (b := 128) (by omega) (by unfold maxLen; omega)) AllP.nil))) (by kernel_rfl) ?_
  refine xw_seq ?_
  refine vx c [(0, .lf (.im true (.sl 6 (a.map rFn)))), (6, .lf (.u 7 0 74 6 (fillTo rFn a [.int .i64 0, .sl 1 [], .sl 1 [], .sl 1 [], .sl 1 [], .sl 3 []] 0))), (8, .int 0)] [] AllP.nil (by kernel_rfl) ?_
  refine xw_block ?_
  refine xw_loop (fun n L => ∃ (i : Nat), L = [(0, .lf (.im true (.sl 6 (a.map rFn)))), (6, .lf (.u 7 0 74 6 (fillTo rFn a [.int .i64 0, .sl 1 [], .sl 1 [], .sl 1 [], .sl 1 [], .sl 3 []] i))), (8, .int ((i : Nat) : Int))] ∧ n = a.length - i ∧ (i ≤ a.length)) _ ⟨0, rfl, rfl, by omega⟩ ?_
  rintro n L ⟨i, rfl, rfl, hP1⟩
  refine xw_seq ?_
  refine vx c [(0, .lf (.im true (.sl 6 (a.map rFn)))), (6, .lf (.u 7 0 74 6 (fillTo rFn a [.int .i64 0, .sl 1 [], .sl 1 [], .sl 1 [], .sl 1 [], .sl 3 []] i))), (8, .int ((i : Nat) : Int)), (22, .bool (decide ((((i : Nat) : Int) : Int) < ((a.length : Nat) : Int))))] [(2, .slot (.int ((a.length : Nat) : Int)))] (a2 (ln (l := a) (f := rFn)) AllP.nil) (by kernel_rfl) ?_
  refine xw_cond (decide ((((i : Nat) : Int) : Int) < ((a.length : Nat) : Int))) rfl (fun h1 => ?_) (fun h1 => ?_)
  · have h1 := of_dT h1
    refine xw_skip ?_
    refine xw_seq ?_
    refine xw_block ?_
    obtain ⟨x1, hx1⟩ := get_lt (l := a) (i := i) (by omega)
    refine vxe c [(0, .lf (.im true (.sl 6 (a.map rFn)))), (6, .lf (.u 7 0 74 6 (fillTo rFn a [.int .i64 0, .sl 1 [], .sl 1 [], .sl 1 [], .sl 1 [], .sl 3 []] (i + 1)))), (8, .int ((i : Nat) : Int))] [(4, .row (rFn x1)), (6, .ret (.agg [.im true (.int .i64 x1.seen), .im true (.sl 1 (x1.args.map rS)), .im true (.sl 1 (x1.rets.map rS)), .im true (.sl 1 (x1.locals.map rS)), .im true (.sl 1 (x1.takes.map rI)), .im true (.sl 3 (x1.code.map rIns))])), (8, .elem i 0 [.int .i64 0, .sl 1 [], .sl 1 [], .sl 1 [], .sl 1 [], .sl 3 []] (some (fillTo rFn a [.int .i64 0, .sl 1 [], .sl 1 [], .sl 1 [], .sl 1 [], .sl 3 []] (i + 1))))] (a2 (ix (f := rFn) (l := a) (i := i) hx1) (a2 (cl tx87f (laws_toFunc_v x1 (by exact mem_at hok hx1))) (a2 (ixu (i := i) (n := (fillTo rFn a [.int .i64 0, .sl 1 [], .sl 1 [], .sl 1 [], .sl 1 [], .sl 3 []] i).length) (by rw [fillTo_len (by omega)]; omega)) (a2 (fillU (f := rFn) (l := a) (zs := [.int .i64 0, .sl 1 [], .sl 1 [], .sl 1 [], .sl 1 [], .sl 3 []]) (i := i) (sz := 6) hx1 rfl rfl) AllP.nil)))) (by kernel_rfl) ?_
    exact vxe c [(0, .lf (.im true (.sl 6 (a.map rFn)))), (6, .lf (.u 7 0 74 6 (fillTo rFn a [.int .i64 0, .sl 1 [], .sl 1 [], .sl 1 [], .sl 1 [], .sl 3 []] (i + 1)))), (8, .int ((i + 1 : Nat) : Int))] [(1, .slot (.int ((i + 1 : Nat) : Int)))] (a2 (wI (a := ((i : Nat) : Int) + 1) (b := ((i + 1 : Nat) : Int)) (by omega) (by omega) (by omega)) AllP.nil) (by kernel_rfl) (⟨_, by omega, (i + 1), rfl, rfl, by omega⟩)
  · have h1 := of_dF h1
    refine xw_exit ?_
    refine xw_fr 3 [(0, .lf (.im true (.sl 6 (a.map rFn)))), (6, .lf (.im true (.sl 6 (fillTo rFn a [.int .i64 0, .sl 1 [], .sl 1 [], .sl 1 [], .sl 1 [], .sl 3 []] i)))), (8, .int ((i : Nat) : Int)), (22, .bool (decide ((((i : Nat) : Int) : Int) < ((a.length : Nat) : Int))))] (by kernel_rfl) ?_
    refine vx c [(4, .lf (.im true (.sl 6 (fillTo rFn a [.int .i64 0, .sl 1 [], .sl 1 [], .sl 1 [], .sl 1 [], .sl 3 []] i))))] [] AllP.nil (by kernel_rfl) ?_
    exact xret [.lf (.im true (.sl 6 (fillTo rFn a [.int .i64 0, .sl 1 [], .sl 1 [], .sl 1 [], .sl 1 [], .sl 3 []] i)))] rfl (by kernel_rfl) (retL (by rw [show i = a.length by omega]; exact fillTo_all rFn a [.int .i64 0, .sl 1 [], .sl 1 [], .sl 1 [], .sl 1 [], .sl 3 []]))
set_option maxRecDepth 100000 in
theorem laws_toModule_v (a : Mod) (hok : a.small) :
    CallV Tryz.prog 25 [.agg [.im true (.sl 2 (a.records.map rRec)), .im true (.sl 6 (a.funcs.map rFn)), .im true (.sl 1 (a.friends.map rI))]] (· = .agg [.im true (.sl 2 (a.records.map rRec)), .im true (.sl 6 (a.funcs.map rFn)), .im true (.sl 1 (a.friends.map rI))]) := by
  refine CallX (fn := Tryz.f25) TTokf mixedf Tryz.func25 rfl rfl rfl rfl rfl fun E c => ?_
  obtain ⟨⟨b1, b2⟩, ⟨b3, b4⟩, b5⟩ := hok
  refine vx c [(2, .lf (.ptr 1 0)), (3, .cell 1 [.im true (.sl 2 (a.records.map rRec)), .im true (.sl 6 (a.funcs.map rFn)), .im true (.sl 1 (a.friends.map rI))]), (4, .lf (.ptr 2 0)), (5, .cell 2 [.nil, .nil, .nil])] [] AllP.nil (by kernel_rfl) ?_
  refine vx c [(2, .lf (.ptr 1 0)), (3, .cell 1 [.im true (.sl 2 (a.records.map rRec)), .im true (.sl 6 (a.funcs.map rFn)), .im true (.sl 1 (a.friends.map rI))]), (4, .lf (.ptr 2 0)), (5, .cell 2 [.nil, .nil, .nil]), (6, .lf (.ptr 3 0)), (7, .cell 3 [.nil, .nil, .nil])] [] AllP.nil (by kernel_rfl) ?_
  refine vx c [(2, .lf (.ptr 1 0)), (3, .cell 1 [.im true (.sl 2 (a.records.map rRec)), .im true (.sl 6 (a.funcs.map rFn)), .im true (.sl 1 (a.friends.map rI))]), (4, .lf (.ptr 2 0)), (5, .cell 2 [.nil, .nil, .nil]), (6, .lf (.ptr 3 0)), (7, .cell 3 [.im true (.sl 2 (a.records.map rRec)), .nil, .nil])] [(2, .ret (.lf (.im true (.sl 2 (a.records.map rRec)))))] (a2 (cl tx54f (laws_toRecordS_v a.records (by assumption) (by assumption))) AllP.nil) (by kernel_rfl) ?_
  refine vx c [(2, .lf (.ptr 1 0)), (3, .cell 1 [.im true (.sl 2 (a.records.map rRec)), .im true (.sl 6 (a.funcs.map rFn)), .im true (.sl 1 (a.friends.map rI))]), (4, .lf (.ptr 2 0)), (5, .cell 2 [.nil, .nil, .nil]), (6, .lf (.ptr 3 0)), (7, .cell 3 [.im true (.sl 2 (a.records.map rRec)), .im true (.sl 6 (a.funcs.map rFn)), .nil])] [(2, .ret (.lf (.im true (.sl 6 (a.funcs.map rFn)))))] (a2 (cl tx55f (laws_toFuncS_v a.funcs (by assumption) (by assumption))) AllP.nil) (by kernel_rfl) ?_
  refine vx c [(4, .lf (.ptr 2 0)), (5, .cell 2 [.nil, .nil, .nil]), (6, .lf (.ptr 3 0)), (7, .cell 3 [.im true (.sl 2 (a.records.map rRec)), .im true (.sl 6 (a.funcs.map rFn)), .im true (.sl 1 (a.friends.map rI))])] [(2, .ret (.lf (.im true (.sl 1 (a.friends.map rI)))))] (a2 (cl tx56f (laws_toIntS_v a.friends (by assumption))) AllP.nil) (by kernel_rfl) ?_
  refine vx c [(4, .lf (.ptr 2 0)), (5, .cell 2 [.im true (.sl 2 (a.records.map rRec)), .im true (.sl 6 (a.funcs.map rFn)), .im true (.sl 1 (a.friends.map rI))])] [] AllP.nil (by kernel_rfl) ?_
  exact xret [.agg [.im true (.sl 2 (a.records.map rRec)), .im true (.sl 6 (a.funcs.map rFn)), .im true (.sl 1 (a.friends.map rI))]] rfl (by kernel_rfl) (rfl)
set_option maxRecDepth 100000 in
theorem laws_szModuleS_v (a : List Mod) (ha : a.length ≤ 140737488355328) (hok : ∀ x ∈ a, x.ok) (left : Int) (l0 : 0 ≤ left) (l1 : left ≤ 1048576) :
    CallV Tryz.prog 5 [.lf (.im true (.sl 3 (a.map rMod))), .lf (.im true (.int .i64 left))] (· = .int (szR (wMods a) left)) := by
  refine CallX (fn := Tryz.f5) TTokf mixedf Tryz.func5 rfl rfl rfl rfl rfl fun E c => ?_
  refine vx c [(0, .lf (.im true (.sl 3 (a.map rMod)))), (2, .int left)] [] AllP.nil (by kernel_rfl) ?_
  refine vx c [(0, .lf (.im true (.sl 3 (a.map rMod)))), (2, .int (left - ((a.length : Nat) : Int)))] [(2, .slot (.int ((a.length : Nat) : Int))), (3, .slot (.int (left - ((a.length : Nat) : Int))))] (a2 (ln (l := a) (f := rMod)) (a2 (wI (a := left - ((a.length : Nat) : Int)) (b := left - ((a.length : Nat) : Int)) (by omega) (by omega) (by omega)) AllP.nil)) (by kernel_rfl) ?_
  refine xw_seq ?_
  refine vx c [(0, .lf (.im true (.sl 3 (a.map rMod)))), (2, .int (left - ((a.length : Nat) : Int))), (22, .bool (decide ((left - ((a.length : Nat) : Int) : Int) < 0)))] [] AllP.nil (by kernel_rfl) ?_
  refine xw_cond (decide ((left - ((a.length : Nat) : Int) : Int) < 0)) rfl (fun h1 => ?_) (fun h1 => ?_)
  · have h1 := of_dT h1
    refine vx c [(8, .int (-1))] [] AllP.nil (by kernel_rfl) ?_
    exact xret [.lf (.im true (.int .i64 (-1)))] rfl (by kernel_rfl) (retI (szR_no (by unfold wMods; omega)))
  · have h1 := of_dF h1
    refine xw_skip ?_
    refine xw_seq ?_
    refine vx c [(0, .lf (.im true (.sl 3 (a.map rMod)))), (2, .int (left - ((a.length : Nat) : Int))), (10, .int 0)] [] AllP.nil (by kernel_rfl) ?_
    refine xw_block ?_
    refine xw_loop (fun n L => ∃ (i : Nat) (cur : Int), L = [(0, .lf (.im true (.sl 3 (a.map rMod)))), (2, .int cur), (10, .int ((i : Nat) : Int))] ∧ n = a.length - i ∧ (i ≤ a.length ∧ 0 ≤ cur ∧ cur = left - ((a.length + sumTo wMod a i : Nat) : Int))) _ ⟨0, (left - ((a.length : Nat) : Int)), rfl, rfl, ⟨by omega, by omega, by rw [sumTo_zero]; omega⟩⟩ ?_
    rintro n L ⟨i, cur, rfl, rfl, hP1⟩
    refine xw_seq ?_
    refine vx c [(0, .lf (.im true (.sl 3 (a.map rMod)))), (2, .int cur), (10, .int ((i : Nat) : Int)), (30, .bool (decide ((((i : Nat) : Int) : Int) < ((a.length : Nat) : Int))))] [(2, .slot (.int ((a.length : Nat) : Int)))] (a2 (ln (l := a) (f := rMod)) AllP.nil) (by kernel_rfl) ?_
    refine xw_cond (decide ((((i : Nat) : Int) : Int) < ((a.length : Nat) : Int))) rfl (fun h2 => ?_) (fun h2 => ?_)
    · have h2 := of_dT h2
      refine xw_skip ?_
      refine xw_seq ?_
      refine xw_block ?_
      obtain ⟨x1, hx1⟩ := get_lt (l := a) (i := i) (by omega)
      refine vx c [(0, .lf (.im true (.sl 3 (a.map rMod)))), (2, .int (szR (wMod x1) cur)), (10, .int ((i : Nat) : Int))] [(2, .row (rMod x1)), (5, .ret (.int (szR (wMod x1) cur)))] (a2 (ix (f := rMod) (l := a) (i := i) hx1) (a2 (cl tx21f (laws_szModule_v x1 (by exact mem_at hok hx1) cur (by omega) (by omega))) AllP.nil)) (by kernel_rfl) ?_
      refine vx c [(0, .lf (.im true (.sl 3 (a.map rMod)))), (2, .int (szR (wMod x1) cur)), (10, .int ((i : Nat) : Int)), (50, .bool (decide ((szR (wMod x1) cur : Int) < 0)))] [] AllP.nil (by kernel_rfl) ?_
      refine xw_cond (decide ((szR (wMod x1) cur : Int) < 0)) rfl (fun h3 => ?_) (fun h3 => ?_)
      · have h3 := of_dT h3
        refine vx c [(8, .int (-1))] [] AllP.nil (by kernel_rfl) ?_
        exact xret [.lf (.im true (.int .i64 (-1)))] rfl (by kernel_rfl) (retI (szR_no (by have := sumTo_le wMod a (i + 1); rw [sumTo_succ hx1] at this; have := szR_neg h3; unfold wMods; omega)))
      · have h3 := of_dF h3
        refine xw_skip ?_
        exact vxe c [(0, .lf (.im true (.sl 3 (a.map rMod)))), (2, .int (szR (wMod x1) cur)), (10, .int ((i + 1 : Nat) : Int))] [(1, .slot (.int ((i + 1 : Nat) : Int)))] (a2 (wI (a := ((i : Nat) : Int) + 1) (b := ((i + 1 : Nat) : Int)) (by omega) (by omega) (by omega)) AllP.nil) (by kernel_rfl) (⟨_, by omega, (i + 1), (szR (wMod x1) cur), rfl, rfl, ⟨by omega, by omega, by rw [(szR_pos h3 hP1.2.1).2, sumTo_succ hx1]; omega⟩⟩)
    · have h2 := of_dF h2
      refine xw_exit ?_
      refine vx c [(8, .int cur)] [] AllP.nil (by kernel_rfl) ?_
      exact xret [.lf (.im true (.int .i64 cur))] rfl (by kernel_rfl) (retI (szR_yes hP1.2.1 (by have := hP1.2.2; rw [sumTo_all (by omega)] at this; unfold wMods; exact this)))
set_option maxRecDepth 100000 in
theorem laws_toModuleS_v (a : List Mod) (ha : a.length ≤ 1048576) (hok : ∀ x ∈ a, x.small) :
    CallV Tryz.prog 7 [.lf (.im true (.sl 3 (a.map rMod)))] (· = .lf (.im true (.sl 3 (a.map rMod)))) := by
  refine CallX (fn := Tryz.f7) TTokf mixedf Tryz.func7 rfl rfl rfl rfl rfl fun E c => ?_
  refine vx c [(0, .lf (.im true (.sl 3 (a.map rMod))))] [] AllP.nil (by kernel_rfl) ?_
  refine vx c [(0, .lf (.im true (.sl 3 (a.map rMod)))), (6, .lf (.u 7 0 53 3 (fillTo rMod a [.sl 2 [], .sl 6 [], .sl 1 []] 0)))] [(1, .slot (.int ((a.length : Nat) : Int))), (2, .slot (.lf (.u 7 0 53 3 (fillTo rMod a [.sl 2 [], .sl 6 [], .sl 1 []] 0))))] (a2 (ln (l := a) (f := rMod)) (a2 (a1 (show (List.replicate a.length [.sl 2 [], .sl 6 [], .sl 1 []] : List (List SV)) = fillTo rMod a [.sl 2 [], .sl 6 [], .sl 1 []] 0 by exact fillTo_zero rMod a [.sl 2 [], .sl 6 [], .sl 1 []])) (a2 (mk (n := a.length) (b := 72) (by omega) (by unfold maxLen; omega)) AllP.nil))) (by kernel_rfl) ?_
  refine xw_seq ?_
  refine vx c [(0, .lf (.im true (.sl 3 (a.map rMod)))), (6, .lf (.u 7 0 53 3 (fillTo rMod a [.sl 2 [], .sl 6 [], .sl 1 []] 0))), (8, .int 0)] [] AllP.nil (by kernel_rfl) ?_
  refine xw_block ?_
  refine xw_loop (fun n L => ∃ (i : Nat), L = [(0, .lf (.im true (.sl 3 (a.map rMod)))), (6, .lf (.u 7 0 53 3 (fillTo rMod a [.sl 2 [], .sl 6 [], .sl 1 []] i))), (8, .int ((i : Nat) : Int))] ∧ n = a.length - i ∧ (i ≤ a.length)) _ ⟨0, rfl, rfl, by omega⟩ ?_
  rintro n L ⟨i, rfl, rfl, hP1⟩
  refine xw_seq ?_
  refine vx c [(0, .lf (.im true (.sl 3 (a.map rMod)))), (6, .lf (.u 7 0 53 3 (fillTo rMod a [.sl 2 [], .sl 6 [], .sl 1 []] i))), (8, .int ((i : Nat) : Int)), (22, .bool (decide ((((i : Nat) : Int) : Int) < ((a.length : Nat) : Int))))] [(2, .slot (.int ((a.length : Nat) : Int)))] (a2 (ln (l := a) (f := rMod)) AllP.nil) (by kernel_rfl) ?_
  refine xw_cond (decide ((((i : Nat) : Int) : Int) < ((a.length : Nat) : Int))) rfl (fun h1 => ?_) (fun h1 => ?_)
  · have h1 := of_dT h1
    refine xw_skip ?_
    refine xw_seq ?_
    refine xw_block ?_
    obtain ⟨x1, hx1⟩ := get_lt (l := a) (i := i) (by omega)
    refine vxe c [(0, .lf (.im true (.sl 3 (a.map rMod)))), (6, .lf (.u 7 0 53 3 (fillTo rMod a [.sl 2 [], .sl 6 [], .sl 1 []] (i + 1)))), (8, .int ((i : Nat) : Int))] [(4, .row (rMod x1)), (6, .ret (.agg [.im true (.sl 2 (x1.records.map rRec)), .im true (.sl 6 (x1.funcs.map rFn)), .im true (.sl 1 (x1.friends.map rI))])), (8, .elem i 0 [.sl 2 [], .sl 6 [], .sl 1 []] (some (fillTo rMod a [.sl 2 [], .sl 6 [], .sl 1 []] (i + 1))))] (a2 (ix (f := rMod) (l := a) (i := i) hx1) (a2 (cl tx25f (laws_toModule_v x1 (by exact mem_at hok hx1))) (a2 (ixu (i := i) (n := (fillTo rMod a [.sl 2 [], .sl 6 [], .sl 1 []] i).length) (by rw [fillTo_len (by omega)]; omega)) (a2 (fillU (f := rMod) (l := a) (zs := [.sl 2 [], .sl 6 [], .sl 1 []]) (i := i) (sz := 3) hx1 rfl rfl) AllP.nil)))) (by kernel_rfl) ?_
    exact vxe c [(0, .lf (.im true (.sl 3 (a.map rMod)))), (6, .lf (.u 7 0 53 3 (fillTo rMod a [.sl 2 [], .sl 6 [], .sl 1 []] (i + 1)))), (8, .int ((i + 1 : Nat) : Int))] [(1, .slot (.int ((i + 1 : Nat) : Int)))] (a2 (wI (a := ((i : Nat) : Int) + 1) (b := ((i + 1 : Nat) : Int)) (by omega) (by omega) (by omega)) AllP.nil) (by kernel_rfl) (⟨_, by omega, (i + 1), rfl, rfl, by omega⟩)
  · have h1 := of_dF h1
    refine xw_exit ?_
    refine xw_fr 3 [(0, .lf (.im true (.sl 3 (a.map rMod)))), (6, .lf (.im true (.sl 3 (fillTo rMod a [.sl 2 [], .sl 6 [], .sl 1 []] i)))), (8, .int ((i : Nat) : Int)), (22, .bool (decide ((((i : Nat) : Int) : Int) < ((a.length : Nat) : Int))))] (by kernel_rfl) ?_
    refine vx c [(4, .lf (.im true (.sl 3 (fillTo rMod a [.sl 2 [], .sl 6 [], .sl 1 []] i))))] [] AllP.nil (by kernel_rfl) ?_
    exact xret [.lf (.im true (.sl 3 (fillTo rMod a [.sl 2 [], .sl 6 [], .sl 1 []] i)))] rfl (by kernel_rfl) (retL (by rw [show i = a.length by omega]; exact fillTo_all rMod a [.sl 2 [], .sl 6 [], .sl 1 []]))
set_option maxRecDepth 100000 in
theorem laws_eqModuleS_v (a b : List Mod) (ha : a.length ≤ 140737488355328) (hok : ∀ x ∈ a, x.ok) :
    CallV Tryz.prog 10 [.lf (.im true (.sl 3 (a.map rMod))), .lf (.im true (.sl 3 (b.map rMod)))] (· = .bool (decide (a = b))) := by
  refine CallX (fn := Tryz.f10) TTokf mixedf Tryz.func10 rfl rfl rfl rfl rfl fun E c => ?_
  refine vx c [(0, .lf (.im true (.sl 3 (a.map rMod)))), (2, .lf (.im true (.sl 3 (b.map rMod))))] [] AllP.nil (by kernel_rfl) ?_
  refine xw_seq ?_
  refine vx c [(0, .lf (.im true (.sl 3 (a.map rMod)))), (2, .lf (.im true (.sl 3 (b.map rMod)))), (20, .bool (decide ((((a.length : Nat) : Int) : Int) ≠ ((b.length : Nat) : Int))))] [(1, .slot (.int ((a.length : Nat) : Int))), (3, .slot (.int ((b.length : Nat) : Int)))] (a2 (ln (l := a) (f := rMod)) (a2 (ln (l := b) (f := rMod)) AllP.nil)) (by kernel_rfl) ?_
  refine xw_cond (decide ((((a.length : Nat) : Int) : Int) ≠ ((b.length : Nat) : Int))) rfl (fun h1 => ?_) (fun h1 => ?_)
  · have h1 := of_dT h1
    refine vx c [(8, .bool false)] [] AllP.nil (by kernel_rfl) ?_
    exact xret [.lf (.im true (.bool false))] rfl (by kernel_rfl) (retF (ne_len h1))
  · have h1 := of_dF h1
    have hl : a.length = b.length := by omega
    refine xw_skip ?_
    refine xw_seq ?_
    refine vx c [(0, .lf (.im true (.sl 3 (a.map rMod)))), (2, .lf (.im true (.sl 3 (b.map rMod)))), (10, .int 0)] [] AllP.nil (by kernel_rfl) ?_
    refine xw_block ?_
    refine xw_loop (fun n L => ∃ (i : Nat), L = [(0, .lf (.im true (.sl 3 (a.map rMod)))), (2, .lf (.im true (.sl 3 (b.map rMod)))), (10, .int ((i : Nat) : Int))] ∧ n = a.length - i ∧ (i ≤ a.length ∧ a.take i = b.take i)) _ ⟨0, rfl, rfl, ⟨by omega, by simp⟩⟩ ?_
    rintro n L ⟨i, rfl, rfl, hP1⟩
    refine xw_seq ?_
    refine vx c [(0, .lf (.im true (.sl 3 (a.map rMod)))), (2, .lf (.im true (.sl 3 (b.map rMod)))), (10, .int ((i : Nat) : Int)), (28, .bool (decide ((((i : Nat) : Int) : Int) < ((a.length : Nat) : Int))))] [(2, .slot (.int ((a.length : Nat) : Int)))] (a2 (ln (l := a) (f := rMod)) AllP.nil) (by kernel_rfl) ?_
    refine xw_cond (decide ((((i : Nat) : Int) : Int) < ((a.length : Nat) : Int))) rfl (fun h2 => ?_) (fun h2 => ?_)
    · have h2 := of_dT h2
      refine xw_skip ?_
      refine xw_seq ?_
      refine xw_block ?_
      obtain ⟨x1, hx1⟩ := get_lt (l := a) (i := i) (by omega)
      obtain ⟨x2, hx2⟩ := get_lt (l := b) (i := i) (by omega)
      refine vx c [(0, .lf (.im true (.sl 3 (a.map rMod)))), (2, .lf (.im true (.sl 3 (b.map rMod)))), (10, .int ((i : Nat) : Int)), (52, .bool (!(decide (x1 = x2))))] [(2, .row (rMod x1)), (6, .row (rMod x2)), (8, .ret (.bool (decide (x1 = x2))))] (a2 (ix (f := rMod) (l := a) (i := i) hx1) (a2 (ix (f := rMod) (l := b) (i := i) hx2) (a2 (cl tx28f (laws_eqModule_v x1 x2 (by exact mem_at hok hx1))) AllP.nil))) (by kernel_rfl) ?_
      refine xw_cond (!(decide (x1 = x2))) rfl (fun h3 => ?_) (fun h3 => ?_)
      · have h3 : (decide (x1 = x2)) = false := of_nT h3
        refine vx c [(8, .bool false)] [] AllP.nil (by kernel_rfl) ?_
        exact xret [.lf (.im true (.bool false))] rfl (by kernel_rfl) (retF (ne_at hx1 hx2 (by simpa using h3)))
      · have h3 : (decide (x1 = x2)) = true := of_nF h3
        refine xw_skip ?_
        exact vxe c [(0, .lf (.im true (.sl 3 (a.map rMod)))), (2, .lf (.im true (.sl 3 (b.map rMod)))), (10, .int ((i + 1 : Nat) : Int))] [(1, .slot (.int ((i + 1 : Nat) : Int)))] (a2 (wI (a := ((i : Nat) : Int) + 1) (b := ((i + 1 : Nat) : Int)) (by omega) (by omega) (by omega)) AllP.nil) (by kernel_rfl) (⟨_, by omega, (i + 1), rfl, rfl, ⟨by omega, (take_succ_eq hx1 hx2).2 ⟨hP1.2, by simpa using h3⟩⟩⟩)
    · have h2 := of_dF h2
      refine xw_exit ?_
      refine vx c [(8, .bool true)] [] AllP.nil (by kernel_rfl) ?_
      exact xret [.lf (.im true (.bool true))] rfl (by kernel_rfl) (retT (all_take hl (by omega) hP1.2))
set_option maxRecDepth 100000 in
theorem held_marks (cn : Nat) (hn : cn ≤ 140737488355328) :
    CallV Tryz.prog 13 [.lf (.im true (.sl 1 ((marksL cn).map rI))), .lf (.im true (.int .i64 1))] (· = .int (1 + ((cn : Nat) : Int))) := by
  refine CallX (fn := Tryz.f13) TTokf mixedf Tryz.func13 rfl rfl rfl rfl rfl fun E c => ?_
  have hl := marks_len cn
  refine vx c [(0, .lf (.im true (.sl 1 ((marksL cn).map rI)))), (2, .int 1)] [] AllP.nil (by kernel_rfl) ?_
  refine xw_seq ?_
  refine vx c [(0, .lf (.im true (.sl 1 ((marksL cn).map rI)))), (2, .int 1), (10, .int 0)] [] AllP.nil (by kernel_rfl) ?_
  refine xw_block ?_
  refine xw_loop (fun n L => ∃ (i : Nat), L = [(0, .lf (.im true (.sl 1 ((marksL cn).map rI)))), (2, .int (1 + ((i : Nat) : Int))), (10, .int ((i : Nat) : Int))] ∧ n = cn - i ∧ (i ≤ cn)) _ ⟨0, rfl, rfl, by omega⟩ ?_
  rintro n L ⟨i, rfl, rfl, hP1⟩
  refine xw_seq ?_
  refine vx c [(0, .lf (.im true (.sl 1 ((marksL cn).map rI)))), (2, .int (1 + ((i : Nat) : Int))), (10, .int ((i : Nat) : Int)), (18, .bool (decide ((((i : Nat) : Int) : Int) < (((marksL cn).length : Nat) : Int))))] [(2, .slot (.int (((marksL cn).length : Nat) : Int)))] (a2 (ln (l := (marksL cn)) (f := rI)) AllP.nil) (by kernel_rfl) ?_
  refine xw_cond (decide ((((i : Nat) : Int) : Int) < (((marksL cn).length : Nat) : Int))) rfl (fun h1 => ?_) (fun h1 => ?_)
  · have h1 := of_dT h1
    have hq := marks_nth (n := cn) (i := i) (by omega)
    refine xw_skip ?_
    refine xw_seq ?_
    refine xw_block ?_
    refine xw_seq ?_
    refine vx c [(0, .lf (.im true (.sl 1 ((marksL cn).map rI)))), (2, .int (1 + ((i : Nat) : Int))), (10, .int ((i : Nat) : Int)), (34, .bool (decide (((nth (marksL cn) i) : Int) ≠ (1 + ((i : Nat) : Int)))))] [(2, .row (rI (nth (marksL cn) i)))] (a2 (ix (f := rI) (l := (marksL cn)) (i := i) (nth_at (l := (marksL cn)) (i := i) (by rw [marks_len]; omega))) AllP.nil) (by kernel_rfl) ?_
    refine xw_cond (decide (((nth (marksL cn) i) : Int) ≠ (1 + ((i : Nat) : Int)))) rfl (fun h2 => ?_) (fun h2 => ?_)
    · exact absurd hq (of_dT h2)
    · have h2 := of_dF h2
      refine xw_skip ?_
      refine vxe c [(0, .lf (.im true (.sl 1 ((marksL cn).map rI)))), (2, .int ((1 + ((i : Nat) : Int)) + 1)), (10, .int ((i : Nat) : Int))] [(1, .slot (.int ((1 + ((i : Nat) : Int)) + 1)))] (a2 (wI (a := (1 + ((i : Nat) : Int)) + 1) (b := (1 + ((i : Nat) : Int)) + 1) (by omega) (by omega) (by omega)) AllP.nil) (by kernel_rfl) ?_
      exact vxe c [(0, .lf (.im true (.sl 1 ((marksL cn).map rI)))), (2, .int (1 + ((i + 1 : Nat) : Int))), (10, .int ((i + 1 : Nat) : Int))] [(1, .slot (.int ((i + 1 : Nat) : Int)))] (a2 (wI (a := ((i : Nat) : Int) + 1) (b := ((i + 1 : Nat) : Int)) (by omega) (by omega) (by omega)) AllP.nil) (by kernel_rfl) (⟨_, by omega, (i + 1), rfl, rfl, by omega⟩)
  · have h1 := of_dF h1
    refine xw_exit ?_
    refine vx c [(8, .int (1 + ((i : Nat) : Int)))] [] AllP.nil (by kernel_rfl) ?_
    exact xret [.lf (.im true (.int .i64 (1 + ((i : Nat) : Int))))] rfl (by kernel_rfl) (retI (by omega))
set_option maxRecDepth 100000 in
theorem mark_text (k : Int) (hk : k ≤ 4611686018427387904) :
    CallV Tryz.prog 92 [.lf (.im true (.int .i64 k))] (fun s => ∃ t, s = .lf (.im true (.str t))) := by
  refine CallX (fn := Tryz.f92) TTokf mixedf Tryz.func92 rfl rfl rfl rfl rfl fun E c => ?_
  refine vx c [(0, .int k)] [] AllP.nil (by kernel_rfl) ?_
  refine xw_seq ?_
  refine vx c [(0, .int k), (10, .bool (decide ((k : Int) ≤ 0)))] [] AllP.nil (by kernel_rfl) ?_
  refine xw_cond (decide ((k : Int) ≤ 0)) rfl (fun h1 => ?_) (fun h1 => ?_)
  · have h1 := of_dT h1
    refine vx c [(4, .lf (.im true (.str (⟨#[109, 48]⟩ : ByteArray))))] [] AllP.nil (by kernel_rfl) ?_
    exact xret [.lf (.im true (.str (⟨#[109, 48]⟩ : ByteArray)))] rfl (by kernel_rfl) (⟨_, rfl⟩)
  · have h1 := of_dF h1
    refine xw_skip ?_
    refine vx c [(0, .int k), (6, .lf (.im true (.str (⟨#[]⟩ : ByteArray))))] [] AllP.nil (by kernel_rfl) ?_
    refine xw_seq ?_
    refine xw_block ?_
    refine xw_loop (fun n L => ∃ (z : Int) (t : ByteArray), L = [(0, .int z), (6, .lf (.im true (.str t)))] ∧ n = z.toNat ∧ (0 ≤ z ∧ ((t.size : Nat) : Int) + z ≤ 4611686018427387904)) _ ⟨k, ⟨#[]⟩, rfl, rfl, ⟨by omega, by have : (⟨#[]⟩ : ByteArray).size = 0 := rfl; omega⟩⟩ ?_
    rintro n L ⟨z, t, rfl, rfl, hP1⟩
    refine xw_seq ?_
    refine vx c [(0, .int z), (6, .lf (.im true (.str t))), (14, .bool (decide ((z : Int) > 0)))] [] AllP.nil (by kernel_rfl) ?_
    refine xw_cond (decide ((z : Int) > 0)) rfl (fun h2 => ?_) (fun h2 => ?_)
    · have h2 := of_dT h2
      have h0 := hP1.1
      refine xw_skip ?_
      refine xw_block ?_
      refine vx c [(0, .int z), (6, .lf (.im true (.str ((dgt (z % 10)) ++ t))))] [(1, .slot (.int (z % 10))), (2, .slot (.int (48 + (z % 10)))), (3, .slot (.lf (.im true (.int .u8 (48 + z % 10))))), (4, .im), (5, .slot (.lf (.im true (.str (dgt (z % 10))))))] (a2 (a1 (show (Slot.int (remI z 10)) = .int (z % 10) by rw [show remI z 10 = (z % 10) from by unfold remI; exact Int.tmod_eq_emod_of_nonneg (by omega)])) (a2 (a1 (show (10 : Int) ≠ 0 by decide)) (a2 (wI (a := 48 + (z % 10)) (b := 48 + (z % 10)) (by omega) (by omega) (by omega)) (a2 (a1 (show (Slot.im (.int .u8 (IntKind.wrap .u8 (48 + (z % 10)))) : Slot) = .lf (.im true (.int .u8 (48 + z % 10))) by rw [show IntKind.wrap .u8 (48 + (z % 10)) = (48 + z % 10) from by simp [IntKind.wrap, IntKind.signed, IntKind.bits]; omega])) (a2 (a1 (show ([[.int .u8 (48 + z % 10)]] : List (List SV)) = bytesR (dgt (z % 10)) by exact dgt_rows (by omega) (by omega))) (a2 (a1 (StrFit.mk (a := (dgt (z % 10))) (b := t) (by exact strf (by first | (simp only [dgt_size]; omega) | (have q1 : (⟨#[109]⟩ : ByteArray).size = 1 := rfl; have q2 := hP1.2; have q3 := hP1.1; omega))))) AllP.nil)))))) (by kernel_rfl) ?_
      refine vxe c [(0, .int (z / 10)), (6, .lf (.im true (.str ((dgt (z % 10)) ++ t))))] [(1, .slot (.int (z / 10)))] (a2 (a1 (show (Slot.int (quoI z 10)) = .int (z / 10) by rw [show quoI z 10 = (z / 10) from by unfold quoI; rw [Int.tdiv_eq_ediv_of_nonneg (by omega)]; simp [IntKind.wrap, IntKind.signed, IntKind.bits]; omega])) (a2 (a1 (show (10 : Int) ≠ 0 by decide)) AllP.nil)) (by kernel_rfl) ?_
      exact ⟨_, by omega, (z / 10), (dgt (z % 10) ++ t), rfl, rfl, ⟨by omega, by rw [ByteArray.size_append, dgt_size]; omega⟩⟩
    · have h2 := of_dF h2
      refine xw_exit ?_
      refine vx c [(4, .lf (.im true (.str ((⟨#[109]⟩ : ByteArray) ++ t))))] [] (a2 (a1 (StrFit.mk (a := (⟨#[109]⟩ : ByteArray)) (b := t) (by exact strf (by first | (simp only [dgt_size]; omega) | (have q1 : (⟨#[109]⟩ : ByteArray).size = 1 := rfl; have q2 := hP1.2; have q3 := hP1.1; omega))))) AllP.nil) (by kernel_rfl) ?_
      exact xret [.lf (.im true (.str ((⟨#[109]⟩ : ByteArray) ++ t)))] rfl (by kernel_rfl) (⟨_, rfl⟩)
set_option maxRecDepth 100000 in
theorem laws_toStringS_vL (a : List ByteArray) (ha : a.length ≤ 1048576) :
    CallV Tryz.prog 109 [.lf (.im false (.sl 1 (a.map rS)))] (· = .lf (.im true (.sl 1 (a.map rS)))) := by
  refine CallX (fn := Tryz.f109) TTokf mixedf Tryz.func109 rfl rfl rfl rfl rfl fun E c => ?_
  refine vx c [(0, .lf (.im false (.sl 1 (a.map rS))))] [] AllP.nil (by kernel_rfl) ?_
  refine vx c [(0, .lf (.im false (.sl 1 (a.map rS)))), (6, .lf (.u 7 0 9 1 (fillTo rS a [.str ⟨#[]⟩] 0)))] [(1, .slot (.int ((a.length : Nat) : Int))), (2, .slot (.lf (.u 7 0 9 1 (fillTo rS a [.str ⟨#[]⟩] 0))))] (a2 (ln (l := a) (f := rS)) (a2 (a1 (show (List.replicate a.length [.str ⟨#[]⟩] : List (List SV)) = fillTo rS a [.str ⟨#[]⟩] 0 by exact fillTo_zero rS a [.str ⟨#[]⟩])) (a2 (mk (n := a.length) (b := 16) (by omega) (by unfold maxLen; omega)) AllP.nil))) (by kernel_rfl) ?_
  refine xw_seq ?_
  refine vx c [(0, .lf (.im false (.sl 1 (a.map rS)))), (6, .lf (.u 7 0 9 1 (fillTo rS a [.str ⟨#[]⟩] 0))), (8, .int 0)] [] AllP.nil (by kernel_rfl) ?_
  refine xw_block ?_
  refine xw_loop (fun n L => ∃ (i : Nat), L = [(0, .lf (.im false (.sl 1 (a.map rS)))), (6, .lf (.u 7 0 9 1 (fillTo rS a [.str ⟨#[]⟩] i))), (8, .int ((i : Nat) : Int))] ∧ n = a.length - i ∧ (i ≤ a.length)) _ ⟨0, rfl, rfl, by omega⟩ ?_
  rintro n L ⟨i, rfl, rfl, hP1⟩
  refine xw_seq ?_
  refine vx c [(0, .lf (.im false (.sl 1 (a.map rS)))), (6, .lf (.u 7 0 9 1 (fillTo rS a [.str ⟨#[]⟩] i))), (8, .int ((i : Nat) : Int)), (22, .bool (decide ((((i : Nat) : Int) : Int) < ((a.length : Nat) : Int))))] [(2, .slot (.int ((a.length : Nat) : Int)))] (a2 (ln (l := a) (f := rS)) AllP.nil) (by kernel_rfl) ?_
  refine xw_cond (decide ((((i : Nat) : Int) : Int) < ((a.length : Nat) : Int))) rfl (fun h1 => ?_) (fun h1 => ?_)
  · have h1 := of_dT h1
    refine xw_skip ?_
    refine xw_seq ?_
    refine xw_block ?_
    obtain ⟨x1, hx1⟩ := get_lt (l := a) (i := i) (by omega)
    refine vxe c [(0, .lf (.im false (.sl 1 (a.map rS)))), (6, .lf (.u 7 0 9 1 (fillTo rS a [.str ⟨#[]⟩] (i + 1)))), (8, .int ((i : Nat) : Int))] [(4, .row (rS x1)), (7, .elem i 0 [.str ⟨#[]⟩] (some (fillTo rS a [.str ⟨#[]⟩] (i + 1))))] (a2 (ix (f := rS) (l := a) (i := i) hx1) (a2 (ixu (i := i) (n := (fillTo rS a [.str ⟨#[]⟩] i).length) (by rw [fillTo_len (by omega)]; omega)) (a2 (fillU (f := rS) (l := a) (zs := [.str ⟨#[]⟩]) (i := i) (sz := 1) hx1 rfl rfl) AllP.nil))) (by kernel_rfl) ?_
    exact vxe c [(0, .lf (.im false (.sl 1 (a.map rS)))), (6, .lf (.u 7 0 9 1 (fillTo rS a [.str ⟨#[]⟩] (i + 1)))), (8, .int ((i + 1 : Nat) : Int))] [(1, .slot (.int ((i + 1 : Nat) : Int)))] (a2 (wI (a := ((i : Nat) : Int) + 1) (b := ((i + 1 : Nat) : Int)) (by omega) (by omega) (by omega)) AllP.nil) (by kernel_rfl) (⟨_, by omega, (i + 1), rfl, rfl, by omega⟩)
  · have h1 := of_dF h1
    refine xw_exit ?_
    refine xw_fr 3 [(0, .lf (.im false (.sl 1 (a.map rS)))), (6, .lf (.im true (.sl 1 (fillTo rS a [.str ⟨#[]⟩] i)))), (8, .int ((i : Nat) : Int)), (22, .bool (decide ((((i : Nat) : Int) : Int) < ((a.length : Nat) : Int))))] (by kernel_rfl) ?_
    refine vx c [(4, .lf (.im true (.sl 1 (fillTo rS a [.str ⟨#[]⟩] i))))] [] AllP.nil (by kernel_rfl) ?_
    exact xret [.lf (.im true (.sl 1 (fillTo rS a [.str ⟨#[]⟩] i)))] rfl (by kernel_rfl) (retL (by rw [show i = a.length by omega]; exact fillTo_all rS a [.str ⟨#[]⟩]))
set_option maxRecDepth 100000 in
theorem laws_toIntS_vL (a : List Int) (ha : a.length ≤ 1048576) :
    CallV Tryz.prog 56 [.lf (.im false (.sl 1 (a.map rI)))] (· = .lf (.im true (.sl 1 (a.map rI)))) := by
  refine CallX (fn := Tryz.f56) TTokf mixedf Tryz.func56 rfl rfl rfl rfl rfl fun E c => ?_
  refine vx c [(0, .lf (.im false (.sl 1 (a.map rI))))] [] AllP.nil (by kernel_rfl) ?_
  refine vx c [(0, .lf (.im false (.sl 1 (a.map rI)))), (6, .lf (.u 7 0 3 1 (fillTo rI a [.int .i64 0] 0)))] [(1, .slot (.int ((a.length : Nat) : Int))), (2, .slot (.lf (.u 7 0 3 1 (fillTo rI a [.int .i64 0] 0))))] (a2 (ln (l := a) (f := rI)) (a2 (a1 (show (List.replicate a.length [.int .i64 0] : List (List SV)) = fillTo rI a [.int .i64 0] 0 by exact fillTo_zero rI a [.int .i64 0])) (a2 (mk (n := a.length) (b := 8) (by omega) (by unfold maxLen; omega)) AllP.nil))) (by kernel_rfl) ?_
  refine xw_seq ?_
  refine vx c [(0, .lf (.im false (.sl 1 (a.map rI)))), (6, .lf (.u 7 0 3 1 (fillTo rI a [.int .i64 0] 0))), (8, .int 0)] [] AllP.nil (by kernel_rfl) ?_
  refine xw_block ?_
  refine xw_loop (fun n L => ∃ (i : Nat), L = [(0, .lf (.im false (.sl 1 (a.map rI)))), (6, .lf (.u 7 0 3 1 (fillTo rI a [.int .i64 0] i))), (8, .int ((i : Nat) : Int))] ∧ n = a.length - i ∧ (i ≤ a.length)) _ ⟨0, rfl, rfl, by omega⟩ ?_
  rintro n L ⟨i, rfl, rfl, hP1⟩
  refine xw_seq ?_
  refine vx c [(0, .lf (.im false (.sl 1 (a.map rI)))), (6, .lf (.u 7 0 3 1 (fillTo rI a [.int .i64 0] i))), (8, .int ((i : Nat) : Int)), (22, .bool (decide ((((i : Nat) : Int) : Int) < ((a.length : Nat) : Int))))] [(2, .slot (.int ((a.length : Nat) : Int)))] (a2 (ln (l := a) (f := rI)) AllP.nil) (by kernel_rfl) ?_
  refine xw_cond (decide ((((i : Nat) : Int) : Int) < ((a.length : Nat) : Int))) rfl (fun h1 => ?_) (fun h1 => ?_)
  · have h1 := of_dT h1
    refine xw_skip ?_
    refine xw_seq ?_
    refine xw_block ?_
    obtain ⟨x1, hx1⟩ := get_lt (l := a) (i := i) (by omega)
    refine vxe c [(0, .lf (.im false (.sl 1 (a.map rI)))), (6, .lf (.u 7 0 3 1 (fillTo rI a [.int .i64 0] (i + 1)))), (8, .int ((i : Nat) : Int))] [(4, .row (rI x1)), (7, .elem i 0 [.int .i64 0] (some (fillTo rI a [.int .i64 0] (i + 1))))] (a2 (ix (f := rI) (l := a) (i := i) hx1) (a2 (ixu (i := i) (n := (fillTo rI a [.int .i64 0] i).length) (by rw [fillTo_len (by omega)]; omega)) (a2 (fillU (f := rI) (l := a) (zs := [.int .i64 0]) (i := i) (sz := 1) hx1 rfl rfl) AllP.nil))) (by kernel_rfl) ?_
    exact vxe c [(0, .lf (.im false (.sl 1 (a.map rI)))), (6, .lf (.u 7 0 3 1 (fillTo rI a [.int .i64 0] (i + 1)))), (8, .int ((i + 1 : Nat) : Int))] [(1, .slot (.int ((i + 1 : Nat) : Int)))] (a2 (wI (a := ((i : Nat) : Int) + 1) (b := ((i + 1 : Nat) : Int)) (by omega) (by omega) (by omega)) AllP.nil) (by kernel_rfl) (⟨_, by omega, (i + 1), rfl, rfl, by omega⟩)
  · have h1 := of_dF h1
    refine xw_exit ?_
    refine xw_fr 3 [(0, .lf (.im false (.sl 1 (a.map rI)))), (6, .lf (.im true (.sl 1 (fillTo rI a [.int .i64 0] i)))), (8, .int ((i : Nat) : Int)), (22, .bool (decide ((((i : Nat) : Int) : Int) < ((a.length : Nat) : Int))))] (by kernel_rfl) ?_
    refine vx c [(4, .lf (.im true (.sl 1 (fillTo rI a [.int .i64 0] i))))] [] AllP.nil (by kernel_rfl) ?_
    exact xret [.lf (.im true (.sl 1 (fillTo rI a [.int .i64 0] i)))] rfl (by kernel_rfl) (retL (by rw [show i = a.length by omega]; exact fillTo_all rI a [.int .i64 0]))
set_option maxRecDepth 100000 in
theorem laws_toRecord_vL (a : Rec) (hok : a.small) :
    CallV Tryz.prog 86 [.agg [.im true (.int .i64 a.able), .im false (.sl 1 (a.fields.map rS))]] (· = .agg [.im true (.int .i64 a.able), .im true (.sl 1 (a.fields.map rS))]) := by
  refine CallX (fn := Tryz.f86) TTokf mixedf Tryz.func86 rfl rfl rfl rfl rfl fun E c => ?_
  have b1 : a.fields.length ≤ 1048576 := hok
  refine vx c [(2, .lf (.ptr 1 0)), (3, .cell 1 [.im true (.int .i64 a.able), .im false (.sl 1 (a.fields.map rS))]), (4, .lf (.ptr 2 0)), (5, .cell 2 [.im true (.int .i64 0), .nil])] [] AllP.nil (by kernel_rfl) ?_
  refine vx c [(2, .lf (.ptr 1 0)), (3, .cell 1 [.im true (.int .i64 a.able), .im false (.sl 1 (a.fields.map rS))]), (4, .lf (.ptr 2 0)), (5, .cell 2 [.im true (.int .i64 0), .nil]), (6, .lf (.ptr 3 0)), (7, .cell 3 [.im true (.int .i64 0), .nil])] [] AllP.nil (by kernel_rfl) ?_
  refine vx c [(2, .lf (.ptr 1 0)), (3, .cell 1 [.im true (.int .i64 a.able), .im false (.sl 1 (a.fields.map rS))]), (4, .lf (.ptr 2 0)), (5, .cell 2 [.im true (.int .i64 0), .nil]), (6, .lf (.ptr 3 0)), (7, .cell 3 [.im true (.int .i64 a.able), .nil])] [] AllP.nil (by kernel_rfl) ?_
  refine vx c [(4, .lf (.ptr 2 0)), (5, .cell 2 [.im true (.int .i64 0), .nil]), (6, .lf (.ptr 3 0)), (7, .cell 3 [.im true (.int .i64 a.able), .im true (.sl 1 (a.fields.map rS))])] [(2, .ret (.lf (.im true (.sl 1 (a.fields.map rS)))))] (a2 (cl tx109f (laws_toStringS_vL a.fields (by assumption))) AllP.nil) (by kernel_rfl) ?_
  refine vx c [(4, .lf (.ptr 2 0)), (5, .cell 2 [.im true (.int .i64 a.able), .im true (.sl 1 (a.fields.map rS))])] [] AllP.nil (by kernel_rfl) ?_
  exact xret [.agg [.im true (.int .i64 a.able), .im true (.sl 1 (a.fields.map rS))]] rfl (by kernel_rfl) (rfl)
set_option maxRecDepth 100000 in
theorem laws_toRecordS_vL (a : List Rec) (ha : a.length ≤ 1048576) (hok : ∀ x ∈ a, x.small) :
    CallV Tryz.prog 54 [.lf (.im false (.sl 2 (a.map rRec)))] (· = .lf (.im true (.sl 2 (a.map rRec)))) := by
  refine CallX (fn := Tryz.f54) TTokf mixedf Tryz.func54 rfl rfl rfl rfl rfl fun E c => ?_
  refine vx c [(0, .lf (.im false (.sl 2 (a.map rRec))))] [] AllP.nil (by kernel_rfl) ?_
  refine vx c [(0, .lf (.im false (.sl 2 (a.map rRec)))), (6, .lf (.u 7 0 66 2 (fillTo rRec a [.int .i64 0, .sl 1 []] 0)))] [(1, .slot (.int ((a.length : Nat) : Int))), (2, .slot (.lf (.u 7 0 66 2 (fillTo rRec a [.int .i64 0, .sl 1 []] 0))))] (a2 (ln (l := a) (f := rRec)) (a2 (a1 (show (List.replicate a.length [.int .i64 0, .sl 1 []] : List (List SV)) = fillTo rRec a [.int .i64 0, .sl 1 []] 0 by exact fillTo_zero rRec a [.int .i64 0, .sl 1 []])) (a2 (mk (n := a.length) (b := 32) (by omega) (by unfold maxLen; omega)) AllP.nil))) (by kernel_rfl) ?_
  refine xw_seq ?_
  refine vx c [(0, .lf (.im false (.sl 2 (a.map rRec)))), (6, .lf (.u 7 0 66 2 (fillTo rRec a [.int .i64 0, .sl 1 []] 0))), (8, .int 0)] [] AllP.nil (by kernel_rfl) ?_
  refine xw_block ?_
  refine xw_loop (fun n L => ∃ (i : Nat), L = [(0, .lf (.im false (.sl 2 (a.map rRec)))), (6, .lf (.u 7 0 66 2 (fillTo rRec a [.int .i64 0, .sl 1 []] i))), (8, .int ((i : Nat) : Int))] ∧ n = a.length - i ∧ (i ≤ a.length)) _ ⟨0, rfl, rfl, by omega⟩ ?_
  rintro n L ⟨i, rfl, rfl, hP1⟩
  refine xw_seq ?_
  refine vx c [(0, .lf (.im false (.sl 2 (a.map rRec)))), (6, .lf (.u 7 0 66 2 (fillTo rRec a [.int .i64 0, .sl 1 []] i))), (8, .int ((i : Nat) : Int)), (22, .bool (decide ((((i : Nat) : Int) : Int) < ((a.length : Nat) : Int))))] [(2, .slot (.int ((a.length : Nat) : Int)))] (a2 (ln (l := a) (f := rRec)) AllP.nil) (by kernel_rfl) ?_
  refine xw_cond (decide ((((i : Nat) : Int) : Int) < ((a.length : Nat) : Int))) rfl (fun h1 => ?_) (fun h1 => ?_)
  · have h1 := of_dT h1
    refine xw_skip ?_
    refine xw_seq ?_
    refine xw_block ?_
    obtain ⟨x1, hx1⟩ := get_lt (l := a) (i := i) (by omega)
    refine vxe c [(0, .lf (.im false (.sl 2 (a.map rRec)))), (6, .lf (.u 7 0 66 2 (fillTo rRec a [.int .i64 0, .sl 1 []] (i + 1)))), (8, .int ((i : Nat) : Int))] [(4, .row (rRec x1)), (6, .ret (.agg [.im true (.int .i64 x1.able), .im true (.sl 1 (x1.fields.map rS))])), (8, .elem i 0 [.int .i64 0, .sl 1 []] (some (fillTo rRec a [.int .i64 0, .sl 1 []] (i + 1))))] (a2 (ix (f := rRec) (l := a) (i := i) hx1) (a2 (cl tx86f (laws_toRecord_vL x1 (by exact mem_at hok hx1))) (a2 (ixu (i := i) (n := (fillTo rRec a [.int .i64 0, .sl 1 []] i).length) (by rw [fillTo_len (by omega)]; omega)) (a2 (fillU (f := rRec) (l := a) (zs := [.int .i64 0, .sl 1 []]) (i := i) (sz := 2) hx1 rfl rfl) AllP.nil)))) (by kernel_rfl) ?_
    exact vxe c [(0, .lf (.im false (.sl 2 (a.map rRec)))), (6, .lf (.u 7 0 66 2 (fillTo rRec a [.int .i64 0, .sl 1 []] (i + 1)))), (8, .int ((i + 1 : Nat) : Int))] [(1, .slot (.int ((i + 1 : Nat) : Int)))] (a2 (wI (a := ((i : Nat) : Int) + 1) (b := ((i + 1 : Nat) : Int)) (by omega) (by omega) (by omega)) AllP.nil) (by kernel_rfl) (⟨_, by omega, (i + 1), rfl, rfl, by omega⟩)
  · have h1 := of_dF h1
    refine xw_exit ?_
    refine xw_fr 3 [(0, .lf (.im false (.sl 2 (a.map rRec)))), (6, .lf (.im true (.sl 2 (fillTo rRec a [.int .i64 0, .sl 1 []] i)))), (8, .int ((i : Nat) : Int)), (22, .bool (decide ((((i : Nat) : Int) : Int) < ((a.length : Nat) : Int))))] (by kernel_rfl) ?_
    refine vx c [(4, .lf (.im true (.sl 2 (fillTo rRec a [.int .i64 0, .sl 1 []] i))))] [] AllP.nil (by kernel_rfl) ?_
    exact xret [.lf (.im true (.sl 2 (fillTo rRec a [.int .i64 0, .sl 1 []] i)))] rfl (by kernel_rfl) (retL (by rw [show i = a.length by omega]; exact fillTo_all rRec a [.int .i64 0, .sl 1 []]))
set_option maxRecDepth 100000 in
theorem laws_toInsS_vL (a : List Ins) (ha : a.length ≤ 1048576) :
    CallV Tryz.prog 110 [.lf (.im false (.sl 3 (a.map rIns)))] (· = .lf (.im true (.sl 3 (a.map rIns)))) := by
  refine CallX (fn := Tryz.f110) TTokf mixedf Tryz.func110 rfl rfl rfl rfl rfl fun E c => ?_
  refine vx c [(0, .lf (.im false (.sl 3 (a.map rIns))))] [] AllP.nil (by kernel_rfl) ?_
  refine vx c [(0, .lf (.im false (.sl 3 (a.map rIns)))), (6, .lf (.u 7 0 80 3 (fillTo rIns a [.str ⟨#[]⟩, .int .i64 0, .int .i64 0] 0)))] [(1, .slot (.int ((a.length : Nat) : Int))), (2, .slot (.lf (.u 7 0 80 3 (fillTo rIns a [.str ⟨#[]⟩, .int .i64 0, .int .i64 0] 0))))] (a2 (ln (l := a) (f := rIns)) (a2 (a1 (show (List.replicate a.length [.str ⟨#[]⟩, .int .i64 0, .int .i64 0] : List (List SV)) = fillTo rIns a [.str ⟨#[]⟩, .int .i64 0, .int .i64 0] 0 by exact fillTo_zero rIns a [.str ⟨#[]⟩, .int .i64 0, .int .i64 0])) (a2 (mk (n := a.length) (b := 32) (by omega) (by unfold maxLen; omega)) AllP.nil))) (by kernel_rfl) ?_
  refine xw_seq ?_
  refine vx c [(0, .lf (.im false (.sl 3 (a.map rIns)))), (6, .lf (.u 7 0 80 3 (fillTo rIns a [.str ⟨#[]⟩, .int .i64 0, .int .i64 0] 0))), (8, .int 0)] [] AllP.nil (by kernel_rfl) ?_
  refine xw_block ?_
  refine xw_loop (fun n L => ∃ (i : Nat), L = [(0, .lf (.im false (.sl 3 (a.map rIns)))), (6, .lf (.u 7 0 80 3 (fillTo rIns a [.str ⟨#[]⟩, .int .i64 0, .int .i64 0] i))), (8, .int ((i : Nat) : Int))] ∧ n = a.length - i ∧ (i ≤ a.length)) _ ⟨0, rfl, rfl, by omega⟩ ?_
  rintro n L ⟨i, rfl, rfl, hP1⟩
  refine xw_seq ?_
  refine vx c [(0, .lf (.im false (.sl 3 (a.map rIns)))), (6, .lf (.u 7 0 80 3 (fillTo rIns a [.str ⟨#[]⟩, .int .i64 0, .int .i64 0] i))), (8, .int ((i : Nat) : Int)), (22, .bool (decide ((((i : Nat) : Int) : Int) < ((a.length : Nat) : Int))))] [(2, .slot (.int ((a.length : Nat) : Int)))] (a2 (ln (l := a) (f := rIns)) AllP.nil) (by kernel_rfl) ?_
  refine xw_cond (decide ((((i : Nat) : Int) : Int) < ((a.length : Nat) : Int))) rfl (fun h1 => ?_) (fun h1 => ?_)
  · have h1 := of_dT h1
    refine xw_skip ?_
    refine xw_seq ?_
    refine xw_block ?_
    obtain ⟨x1, hx1⟩ := get_lt (l := a) (i := i) (by omega)
    refine vxe c [(0, .lf (.im false (.sl 3 (a.map rIns)))), (6, .lf (.u 7 0 80 3 (fillTo rIns a [.str ⟨#[]⟩, .int .i64 0, .int .i64 0] (i + 1)))), (8, .int ((i : Nat) : Int))] [(4, .row (rIns x1)), (6, .ret (.agg [.im true (.str x1.op), .im true (.int .i64 x1.a), .im true (.int .i64 x1.b)])), (8, .elem i 0 [.str ⟨#[]⟩, .int .i64 0, .int .i64 0] (some (fillTo rIns a [.str ⟨#[]⟩, .int .i64 0, .int .i64 0] (i + 1))))] (a2 (ix (f := rIns) (l := a) (i := i) hx1) (a2 (cl tx123f (laws_toIns_v x1)) (a2 (ixu (i := i) (n := (fillTo rIns a [.str ⟨#[]⟩, .int .i64 0, .int .i64 0] i).length) (by rw [fillTo_len (by omega)]; omega)) (a2 (fillU (f := rIns) (l := a) (zs := [.str ⟨#[]⟩, .int .i64 0, .int .i64 0]) (i := i) (sz := 3) hx1 rfl rfl) AllP.nil)))) (by kernel_rfl) ?_
    exact vxe c [(0, .lf (.im false (.sl 3 (a.map rIns)))), (6, .lf (.u 7 0 80 3 (fillTo rIns a [.str ⟨#[]⟩, .int .i64 0, .int .i64 0] (i + 1)))), (8, .int ((i + 1 : Nat) : Int))] [(1, .slot (.int ((i + 1 : Nat) : Int)))] (a2 (wI (a := ((i : Nat) : Int) + 1) (b := ((i + 1 : Nat) : Int)) (by omega) (by omega) (by omega)) AllP.nil) (by kernel_rfl) (⟨_, by omega, (i + 1), rfl, rfl, by omega⟩)
  · have h1 := of_dF h1
    refine xw_exit ?_
    refine xw_fr 3 [(0, .lf (.im false (.sl 3 (a.map rIns)))), (6, .lf (.im true (.sl 3 (fillTo rIns a [.str ⟨#[]⟩, .int .i64 0, .int .i64 0] i)))), (8, .int ((i : Nat) : Int)), (22, .bool (decide ((((i : Nat) : Int) : Int) < ((a.length : Nat) : Int))))] (by kernel_rfl) ?_
    refine vx c [(4, .lf (.im true (.sl 3 (fillTo rIns a [.str ⟨#[]⟩, .int .i64 0, .int .i64 0] i))))] [] AllP.nil (by kernel_rfl) ?_
    exact xret [.lf (.im true (.sl 3 (fillTo rIns a [.str ⟨#[]⟩, .int .i64 0, .int .i64 0] i)))] rfl (by kernel_rfl) (retL (by rw [show i = a.length by omega]; exact fillTo_all rIns a [.str ⟨#[]⟩, .int .i64 0, .int .i64 0]))
set_option maxRecDepth 100000 in
theorem laws_toFunc_vL (a : Fn) (hok : a.small) :
    CallV Tryz.prog 87 [.agg [.im true (.int .i64 a.seen), .im false (.sl 1 (a.args.map rS)), .im false (.sl 1 (a.rets.map rS)), .im false (.sl 1 (a.locals.map rS)), .im false (.sl 1 (a.takes.map rI)), .im false (.sl 3 (a.code.map rIns))]] (· = .agg [.im true (.int .i64 a.seen), .im true (.sl 1 (a.args.map rS)), .im true (.sl 1 (a.rets.map rS)), .im true (.sl 1 (a.locals.map rS)), .im true (.sl 1 (a.takes.map rI)), .im true (.sl 3 (a.code.map rIns))]) := by
  refine CallX (fn := Tryz.f87) TTokf mixedf Tryz.func87 rfl rfl rfl rfl rfl fun E c => ?_
  obtain ⟨b1, b2, b3, b4, b5⟩ := hok
  refine vx c [(2, .lf (.ptr 1 0)), (3, .cell 1 [.im true (.int .i64 a.seen), .im false (.sl 1 (a.args.map rS)), .im false (.sl 1 (a.rets.map rS)), .im false (.sl 1 (a.locals.map rS)), .im false (.sl 1 (a.takes.map rI)), .im false (.sl 3 (a.code.map rIns))]), (4, .lf (.ptr 2 0)), (5, .cell 2 [.im true (.int .i64 0), .nil, .nil, .nil, .nil, .nil])] [] AllP.nil (by kernel_rfl) ?_
  refine vx c [(2, .lf (.ptr 1 0)), (3, .cell 1 [.im true (.int .i64 a.seen), .im false (.sl 1 (a.args.map rS)), .im false (.sl 1 (a.rets.map rS)), .im false (.sl 1 (a.locals.map rS)), .im false (.sl 1 (a.takes.map rI)), .im false (.sl 3 (a.code.map rIns))]), (4, .lf (.ptr 2 0)), (5, .cell 2 [.im true (.int .i64 0), .nil, .nil, .nil, .nil, .nil]), (6, .lf (.ptr 3 0)), (7, .cell 3 [.im true (.int .i64 0), .nil, .nil, .nil, .nil, .nil])] [] AllP.nil (by kernel_rfl) ?_
  refine vx c [(2, .lf (.ptr 1 0)), (3, .cell 1 [.im true (.int .i64 a.seen), .im false (.sl 1 (a.args.map rS)), .im false (.sl 1 (a.rets.map rS)), .im false (.sl 1 (a.locals.map rS)), .im false (.sl 1 (a.takes.map rI)), .im false (.sl 3 (a.code.map rIns))]), (4, .lf (.ptr 2 0)), (5, .cell 2 [.im true (.int .i64 0), .nil, .nil, .nil, .nil, .nil]), (6, .lf (.ptr 3 0)), (7, .cell 3 [.im true (.int .i64 a.seen), .nil, .nil, .nil, .nil, .nil])] [] AllP.nil (by kernel_rfl) ?_
  refine vx c [(2, .lf (.ptr 1 0)), (3, .cell 1 [.im true (.int .i64 a.seen), .im false (.sl 1 (a.args.map rS)), .im false (.sl 1 (a.rets.map rS)), .im false (.sl 1 (a.locals.map rS)), .im false (.sl 1 (a.takes.map rI)), .im false (.sl 3 (a.code.map rIns))]), (4, .lf (.ptr 2 0)), (5, .cell 2 [.im true (.int .i64 0), .nil, .nil, .nil, .nil, .nil]), (6, .lf (.ptr 3 0)), (7, .cell 3 [.im true (.int .i64 a.seen), .im true (.sl 1 (a.args.map rS)), .nil, .nil, .nil, .nil])] [(2, .ret (.lf (.im true (.sl 1 (a.args.map rS)))))] (a2 (cl tx109f (laws_toStringS_vL a.args (by assumption))) AllP.nil) (by kernel_rfl) ?_
  refine vx c [(2, .lf (.ptr 1 0)), (3, .cell 1 [.im true (.int .i64 a.seen), .im false (.sl 1 (a.args.map rS)), .im false (.sl 1 (a.rets.map rS)), .im false (.sl 1 (a.locals.map rS)), .im false (.sl 1 (a.takes.map rI)), .im false (.sl 3 (a.code.map rIns))]), (4, .lf (.ptr 2 0)), (5, .cell 2 [.im true (.int .i64 0), .nil, .nil, .nil, .nil, .nil]), (6, .lf (.ptr 3 0)), (7, .cell 3 [.im true (.int .i64 a.seen), .im true (.sl 1 (a.args.map rS)), .im true (.sl 1 (a.rets.map rS)), .nil, .nil, .nil])] [(2, .ret (.lf (.im true (.sl 1 (a.rets.map rS)))))] (a2 (cl tx109f (laws_toStringS_vL a.rets (by assumption))) AllP.nil) (by kernel_rfl) ?_
  refine vx c [(2, .lf (.ptr 1 0)), (3, .cell 1 [.im true (.int .i64 a.seen), .im false (.sl 1 (a.args.map rS)), .im false (.sl 1 (a.rets.map rS)), .im false (.sl 1 (a.locals.map rS)), .im false (.sl 1 (a.takes.map rI)), .im false (.sl 3 (a.code.map rIns))]), (4, .lf (.ptr 2 0)), (5, .cell 2 [.im true (.int .i64 0), .nil, .nil, .nil, .nil, .nil]), (6, .lf (.ptr 3 0)), (7, .cell 3 [.im true (.int .i64 a.seen), .im true (.sl 1 (a.args.map rS)), .im true (.sl 1 (a.rets.map rS)), .im true (.sl 1 (a.locals.map rS)), .nil, .nil])] [(2, .ret (.lf (.im true (.sl 1 (a.locals.map rS)))))] (a2 (cl tx109f (laws_toStringS_vL a.locals (by assumption))) AllP.nil) (by kernel_rfl) ?_
  refine vx c [(2, .lf (.ptr 1 0)), (3, .cell 1 [.im true (.int .i64 a.seen), .im false (.sl 1 (a.args.map rS)), .im false (.sl 1 (a.rets.map rS)), .im false (.sl 1 (a.locals.map rS)), .im false (.sl 1 (a.takes.map rI)), .im false (.sl 3 (a.code.map rIns))]), (4, .lf (.ptr 2 0)), (5, .cell 2 [.im true (.int .i64 0), .nil, .nil, .nil, .nil, .nil]), (6, .lf (.ptr 3 0)), (7, .cell 3 [.im true (.int .i64 a.seen), .im true (.sl 1 (a.args.map rS)), .im true (.sl 1 (a.rets.map rS)), .im true (.sl 1 (a.locals.map rS)), .im true (.sl 1 (a.takes.map rI)), .nil])] [(2, .ret (.lf (.im true (.sl 1 (a.takes.map rI)))))] (a2 (cl tx56f (laws_toIntS_vL a.takes (by assumption))) AllP.nil) (by kernel_rfl) ?_
  refine vx c [(4, .lf (.ptr 2 0)), (5, .cell 2 [.im true (.int .i64 0), .nil, .nil, .nil, .nil, .nil]), (6, .lf (.ptr 3 0)), (7, .cell 3 [.im true (.int .i64 a.seen), .im true (.sl 1 (a.args.map rS)), .im true (.sl 1 (a.rets.map rS)), .im true (.sl 1 (a.locals.map rS)), .im true (.sl 1 (a.takes.map rI)), .im true (.sl 3 (a.code.map rIns))])] [(2, .ret (.lf (.im true (.sl 3 (a.code.map rIns)))))] (a2 (cl tx110f (laws_toInsS_vL a.code (by assumption))) AllP.nil) (by kernel_rfl) ?_
  refine vx c [(4, .lf (.ptr 2 0)), (5, .cell 2 [.im true (.int .i64 a.seen), .im true (.sl 1 (a.args.map rS)), .im true (.sl 1 (a.rets.map rS)), .im true (.sl 1 (a.locals.map rS)), .im true (.sl 1 (a.takes.map rI)), .im true (.sl 3 (a.code.map rIns))])] [] AllP.nil (by kernel_rfl) ?_
  exact xret [.agg [.im true (.int .i64 a.seen), .im true (.sl 1 (a.args.map rS)), .im true (.sl 1 (a.rets.map rS)), .im true (.sl 1 (a.locals.map rS)), .im true (.sl 1 (a.takes.map rI)), .im true (.sl 3 (a.code.map rIns))]] rfl (by kernel_rfl) (rfl)
set_option maxRecDepth 100000 in
theorem laws_toFuncS_vL (a : List Fn) (ha : a.length ≤ 1048576) (hok : ∀ x ∈ a, x.small) :
    CallV Tryz.prog 55 [.lf (.im false (.sl 6 (a.map rFn)))] (· = .lf (.im true (.sl 6 (a.map rFn)))) := by
  refine CallX (fn := Tryz.f55) TTokf mixedf Tryz.func55 rfl rfl rfl rfl rfl fun E c => ?_
  refine vx c [(0, .lf (.im false (.sl 6 (a.map rFn))))] [] AllP.nil (by kernel_rfl) ?_
  refine vx c [(0, .lf (.im false (.sl 6 (a.map rFn)))), (6, .lf (.u 7 0 74 6 (fillTo rFn a [.int .i64 0, .sl 1 [], .sl 1 [], .sl 1 [], .sl 1 [], .sl 3 []] 0)))] [(1, .slot (.int ((a.length : Nat) : Int))), (2, .slot (.lf (.u 7 0 74 6 (fillTo rFn a [.int .i64 0, .sl 1 [], .sl 1 [], .sl 1 [], .sl 1 [], .sl 3 []] 0))))] (a2 (ln (l := a) (f := rFn)) (a2 (a1 (show (List.replicate a.length [.int .i64 0, .sl 1 [], .sl 1 [], .sl 1 [], .sl 1 [], .sl 3 []] : List (List SV)) = fillTo rFn a [.int .i64 0, .sl 1 [], .sl 1 [], .sl 1 [], .sl 1 [], .sl 3 []] 0 by exact fillTo_zero rFn a [.int .i64 0, .sl 1 [], .sl 1 [], .sl 1 [], .sl 1 [], .sl 3 []])) (a2 (mk (n := a.length) (b := 128) (by omega) (by unfold maxLen; omega)) AllP.nil))) (by kernel_rfl) ?_
  refine xw_seq ?_
  refine vx c [(0, .lf (.im false (.sl 6 (a.map rFn)))), (6, .lf (.u 7 0 74 6 (fillTo rFn a [.int .i64 0, .sl 1 [], .sl 1 [], .sl 1 [], .sl 1 [], .sl 3 []] 0))), (8, .int 0)] [] AllP.nil (by kernel_rfl) ?_
  refine xw_block ?_
  refine xw_loop (fun n L => ∃ (i : Nat), L = [(0, .lf (.im false (.sl 6 (a.map rFn)))), (6, .lf (.u 7 0 74 6 (fillTo rFn a [.int .i64 0, .sl 1 [], .sl 1 [], .sl 1 [], .sl 1 [], .sl 3 []] i))), (8, .int ((i : Nat) : Int))] ∧ n = a.length - i ∧ (i ≤ a.length)) _ ⟨0, rfl, rfl, by omega⟩ ?_
  rintro n L ⟨i, rfl, rfl, hP1⟩
  refine xw_seq ?_
  refine vx c [(0, .lf (.im false (.sl 6 (a.map rFn)))), (6, .lf (.u 7 0 74 6 (fillTo rFn a [.int .i64 0, .sl 1 [], .sl 1 [], .sl 1 [], .sl 1 [], .sl 3 []] i))), (8, .int ((i : Nat) : Int)), (22, .bool (decide ((((i : Nat) : Int) : Int) < ((a.length : Nat) : Int))))] [(2, .slot (.int ((a.length : Nat) : Int)))] (a2 (ln (l := a) (f := rFn)) AllP.nil) (by kernel_rfl) ?_
  refine xw_cond (decide ((((i : Nat) : Int) : Int) < ((a.length : Nat) : Int))) rfl (fun h1 => ?_) (fun h1 => ?_)
  · have h1 := of_dT h1
    refine xw_skip ?_
    refine xw_seq ?_
    refine xw_block ?_
    obtain ⟨x1, hx1⟩ := get_lt (l := a) (i := i) (by omega)
    refine vxe c [(0, .lf (.im false (.sl 6 (a.map rFn)))), (6, .lf (.u 7 0 74 6 (fillTo rFn a [.int .i64 0, .sl 1 [], .sl 1 [], .sl 1 [], .sl 1 [], .sl 3 []] (i + 1)))), (8, .int ((i : Nat) : Int))] [(4, .row (rFn x1)), (6, .ret (.agg [.im true (.int .i64 x1.seen), .im true (.sl 1 (x1.args.map rS)), .im true (.sl 1 (x1.rets.map rS)), .im true (.sl 1 (x1.locals.map rS)), .im true (.sl 1 (x1.takes.map rI)), .im true (.sl 3 (x1.code.map rIns))])), (8, .elem i 0 [.int .i64 0, .sl 1 [], .sl 1 [], .sl 1 [], .sl 1 [], .sl 3 []] (some (fillTo rFn a [.int .i64 0, .sl 1 [], .sl 1 [], .sl 1 [], .sl 1 [], .sl 3 []] (i + 1))))] (a2 (ix (f := rFn) (l := a) (i := i) hx1) (a2 (cl tx87f (laws_toFunc_vL x1 (by exact mem_at hok hx1))) (a2 (ixu (i := i) (n := (fillTo rFn a [.int .i64 0, .sl 1 [], .sl 1 [], .sl 1 [], .sl 1 [], .sl 3 []] i).length) (by rw [fillTo_len (by omega)]; omega)) (a2 (fillU (f := rFn) (l := a) (zs := [.int .i64 0, .sl 1 [], .sl 1 [], .sl 1 [], .sl 1 [], .sl 3 []]) (i := i) (sz := 6) hx1 rfl rfl) AllP.nil)))) (by kernel_rfl) ?_
    exact vxe c [(0, .lf (.im false (.sl 6 (a.map rFn)))), (6, .lf (.u 7 0 74 6 (fillTo rFn a [.int .i64 0, .sl 1 [], .sl 1 [], .sl 1 [], .sl 1 [], .sl 3 []] (i + 1)))), (8, .int ((i + 1 : Nat) : Int))] [(1, .slot (.int ((i + 1 : Nat) : Int)))] (a2 (wI (a := ((i : Nat) : Int) + 1) (b := ((i + 1 : Nat) : Int)) (by omega) (by omega) (by omega)) AllP.nil) (by kernel_rfl) (⟨_, by omega, (i + 1), rfl, rfl, by omega⟩)
  · have h1 := of_dF h1
    refine xw_exit ?_
    refine xw_fr 3 [(0, .lf (.im false (.sl 6 (a.map rFn)))), (6, .lf (.im true (.sl 6 (fillTo rFn a [.int .i64 0, .sl 1 [], .sl 1 [], .sl 1 [], .sl 1 [], .sl 3 []] i)))), (8, .int ((i : Nat) : Int)), (22, .bool (decide ((((i : Nat) : Int) : Int) < ((a.length : Nat) : Int))))] (by kernel_rfl) ?_
    refine vx c [(4, .lf (.im true (.sl 6 (fillTo rFn a [.int .i64 0, .sl 1 [], .sl 1 [], .sl 1 [], .sl 1 [], .sl 3 []] i))))] [] AllP.nil (by kernel_rfl) ?_
    exact xret [.lf (.im true (.sl 6 (fillTo rFn a [.int .i64 0, .sl 1 [], .sl 1 [], .sl 1 [], .sl 1 [], .sl 3 []] i)))] rfl (by kernel_rfl) (retL (by rw [show i = a.length by omega]; exact fillTo_all rFn a [.int .i64 0, .sl 1 [], .sl 1 [], .sl 1 [], .sl 1 [], .sl 3 []]))
set_option maxRecDepth 100000 in
theorem laws_toModule_vL (a : Mod) (hok : a.small) :
    CallV Tryz.prog 25 [.agg [.im false (.sl 2 (a.records.map rRec)), .im false (.sl 6 (a.funcs.map rFn)), .im false (.sl 1 (a.friends.map rI))]] (· = .agg [.im true (.sl 2 (a.records.map rRec)), .im true (.sl 6 (a.funcs.map rFn)), .im true (.sl 1 (a.friends.map rI))]) := by
  refine CallX (fn := Tryz.f25) TTokf mixedf Tryz.func25 rfl rfl rfl rfl rfl fun E c => ?_
  obtain ⟨⟨b1, b2⟩, ⟨b3, b4⟩, b5⟩ := hok
  refine vx c [(2, .lf (.ptr 1 0)), (3, .cell 1 [.im false (.sl 2 (a.records.map rRec)), .im false (.sl 6 (a.funcs.map rFn)), .im false (.sl 1 (a.friends.map rI))]), (4, .lf (.ptr 2 0)), (5, .cell 2 [.nil, .nil, .nil])] [] AllP.nil (by kernel_rfl) ?_
  refine vx c [(2, .lf (.ptr 1 0)), (3, .cell 1 [.im false (.sl 2 (a.records.map rRec)), .im false (.sl 6 (a.funcs.map rFn)), .im false (.sl 1 (a.friends.map rI))]), (4, .lf (.ptr 2 0)), (5, .cell 2 [.nil, .nil, .nil]), (6, .lf (.ptr 3 0)), (7, .cell 3 [.nil, .nil, .nil])] [] AllP.nil (by kernel_rfl) ?_
  refine vx c [(2, .lf (.ptr 1 0)), (3, .cell 1 [.im false (.sl 2 (a.records.map rRec)), .im false (.sl 6 (a.funcs.map rFn)), .im false (.sl 1 (a.friends.map rI))]), (4, .lf (.ptr 2 0)), (5, .cell 2 [.nil, .nil, .nil]), (6, .lf (.ptr 3 0)), (7, .cell 3 [.im true (.sl 2 (a.records.map rRec)), .nil, .nil])] [(2, .ret (.lf (.im true (.sl 2 (a.records.map rRec)))))] (a2 (cl tx54f (laws_toRecordS_vL a.records (by assumption) (by assumption))) AllP.nil) (by kernel_rfl) ?_
  refine vx c [(2, .lf (.ptr 1 0)), (3, .cell 1 [.im false (.sl 2 (a.records.map rRec)), .im false (.sl 6 (a.funcs.map rFn)), .im false (.sl 1 (a.friends.map rI))]), (4, .lf (.ptr 2 0)), (5, .cell 2 [.nil, .nil, .nil]), (6, .lf (.ptr 3 0)), (7, .cell 3 [.im true (.sl 2 (a.records.map rRec)), .im true (.sl 6 (a.funcs.map rFn)), .nil])] [(2, .ret (.lf (.im true (.sl 6 (a.funcs.map rFn)))))] (a2 (cl tx55f (laws_toFuncS_vL a.funcs (by assumption) (by assumption))) AllP.nil) (by kernel_rfl) ?_
  refine vx c [(4, .lf (.ptr 2 0)), (5, .cell 2 [.nil, .nil, .nil]), (6, .lf (.ptr 3 0)), (7, .cell 3 [.im true (.sl 2 (a.records.map rRec)), .im true (.sl 6 (a.funcs.map rFn)), .im true (.sl 1 (a.friends.map rI))])] [(2, .ret (.lf (.im true (.sl 1 (a.friends.map rI)))))] (a2 (cl tx56f (laws_toIntS_vL a.friends (by assumption))) AllP.nil) (by kernel_rfl) ?_
  refine vx c [(4, .lf (.ptr 2 0)), (5, .cell 2 [.im true (.sl 2 (a.records.map rRec)), .im true (.sl 6 (a.funcs.map rFn)), .im true (.sl 1 (a.friends.map rI))])] [] AllP.nil (by kernel_rfl) ?_
  exact xret [.agg [.im true (.sl 2 (a.records.map rRec)), .im true (.sl 6 (a.funcs.map rFn)), .im true (.sl 1 (a.friends.map rI))]] rfl (by kernel_rfl) (rfl)
set_option maxRecDepth 100000 in
theorem laws_toModuleS_vL (a : List Mod) (ha : a.length ≤ 1048576) (hok : ∀ x ∈ a, x.small) :
    CallV Tryz.prog 7 [.lf (.im false (.sl 3 (a.map rMod)))] (· = .lf (.im true (.sl 3 (a.map rMod)))) := by
  refine CallX (fn := Tryz.f7) TTokf mixedf Tryz.func7 rfl rfl rfl rfl rfl fun E c => ?_
  refine vx c [(0, .lf (.im false (.sl 3 (a.map rMod))))] [] AllP.nil (by kernel_rfl) ?_
  refine vx c [(0, .lf (.im false (.sl 3 (a.map rMod)))), (6, .lf (.u 7 0 53 3 (fillTo rMod a [.sl 2 [], .sl 6 [], .sl 1 []] 0)))] [(1, .slot (.int ((a.length : Nat) : Int))), (2, .slot (.lf (.u 7 0 53 3 (fillTo rMod a [.sl 2 [], .sl 6 [], .sl 1 []] 0))))] (a2 (ln (l := a) (f := rMod)) (a2 (a1 (show (List.replicate a.length [.sl 2 [], .sl 6 [], .sl 1 []] : List (List SV)) = fillTo rMod a [.sl 2 [], .sl 6 [], .sl 1 []] 0 by exact fillTo_zero rMod a [.sl 2 [], .sl 6 [], .sl 1 []])) (a2 (mk (n := a.length) (b := 72) (by omega) (by unfold maxLen; omega)) AllP.nil))) (by kernel_rfl) ?_
  refine xw_seq ?_
  refine vx c [(0, .lf (.im false (.sl 3 (a.map rMod)))), (6, .lf (.u 7 0 53 3 (fillTo rMod a [.sl 2 [], .sl 6 [], .sl 1 []] 0))), (8, .int 0)] [] AllP.nil (by kernel_rfl) ?_
  refine xw_block ?_
  refine xw_loop (fun n L => ∃ (i : Nat), L = [(0, .lf (.im false (.sl 3 (a.map rMod)))), (6, .lf (.u 7 0 53 3 (fillTo rMod a [.sl 2 [], .sl 6 [], .sl 1 []] i))), (8, .int ((i : Nat) : Int))] ∧ n = a.length - i ∧ (i ≤ a.length)) _ ⟨0, rfl, rfl, by omega⟩ ?_
  rintro n L ⟨i, rfl, rfl, hP1⟩
  refine xw_seq ?_
  refine vx c [(0, .lf (.im false (.sl 3 (a.map rMod)))), (6, .lf (.u 7 0 53 3 (fillTo rMod a [.sl 2 [], .sl 6 [], .sl 1 []] i))), (8, .int ((i : Nat) : Int)), (22, .bool (decide ((((i : Nat) : Int) : Int) < ((a.length : Nat) : Int))))] [(2, .slot (.int ((a.length : Nat) : Int)))] (a2 (ln (l := a) (f := rMod)) AllP.nil) (by kernel_rfl) ?_
  refine xw_cond (decide ((((i : Nat) : Int) : Int) < ((a.length : Nat) : Int))) rfl (fun h1 => ?_) (fun h1 => ?_)
  · have h1 := of_dT h1
    refine xw_skip ?_
    refine xw_seq ?_
    refine xw_block ?_
    obtain ⟨x1, hx1⟩ := get_lt (l := a) (i := i) (by omega)
    refine vxe c [(0, .lf (.im false (.sl 3 (a.map rMod)))), (6, .lf (.u 7 0 53 3 (fillTo rMod a [.sl 2 [], .sl 6 [], .sl 1 []] (i + 1)))), (8, .int ((i : Nat) : Int))] [(4, .row (rMod x1)), (6, .ret (.agg [.im true (.sl 2 (x1.records.map rRec)), .im true (.sl 6 (x1.funcs.map rFn)), .im true (.sl 1 (x1.friends.map rI))])), (8, .elem i 0 [.sl 2 [], .sl 6 [], .sl 1 []] (some (fillTo rMod a [.sl 2 [], .sl 6 [], .sl 1 []] (i + 1))))] (a2 (ix (f := rMod) (l := a) (i := i) hx1) (a2 (cl tx25f (laws_toModule_vL x1 (by exact mem_at hok hx1))) (a2 (ixu (i := i) (n := (fillTo rMod a [.sl 2 [], .sl 6 [], .sl 1 []] i).length) (by rw [fillTo_len (by omega)]; omega)) (a2 (fillU (f := rMod) (l := a) (zs := [.sl 2 [], .sl 6 [], .sl 1 []]) (i := i) (sz := 3) hx1 rfl rfl) AllP.nil)))) (by kernel_rfl) ?_
    exact vxe c [(0, .lf (.im false (.sl 3 (a.map rMod)))), (6, .lf (.u 7 0 53 3 (fillTo rMod a [.sl 2 [], .sl 6 [], .sl 1 []] (i + 1)))), (8, .int ((i + 1 : Nat) : Int))] [(1, .slot (.int ((i + 1 : Nat) : Int)))] (a2 (wI (a := ((i : Nat) : Int) + 1) (b := ((i + 1 : Nat) : Int)) (by omega) (by omega) (by omega)) AllP.nil) (by kernel_rfl) (⟨_, by omega, (i + 1), rfl, rfl, by omega⟩)
  · have h1 := of_dF h1
    refine xw_exit ?_
    refine xw_fr 3 [(0, .lf (.im false (.sl 3 (a.map rMod)))), (6, .lf (.im true (.sl 3 (fillTo rMod a [.sl 2 [], .sl 6 [], .sl 1 []] i)))), (8, .int ((i : Nat) : Int)), (22, .bool (decide ((((i : Nat) : Int) : Int) < ((a.length : Nat) : Int))))] (by kernel_rfl) ?_
    refine vx c [(4, .lf (.im true (.sl 3 (fillTo rMod a [.sl 2 [], .sl 6 [], .sl 1 []] i))))] [] AllP.nil (by kernel_rfl) ?_
    exact xret [.lf (.im true (.sl 3 (fillTo rMod a [.sl 2 [], .sl 6 [], .sl 1 []] i)))] rfl (by kernel_rfl) (retL (by rw [show i = a.length by omega]; exact fillTo_all rMod a [.sl 2 [], .sl 6 [], .sl 1 []]))
end Go.Proofs.YtahciphhopiipaaGreatDoor
