import Derived.Test.YtahciphhopiipaaGreatDoorK1
import Derived.KernelRfl
set_option linter.unusedVariables false
set_option linter.unusedSimpArgs false
namespace Go.Proofs.YtahciphhopiipaaGreatDoor
open Go Go.RowKit V
def TTb : Tab := [(3, ⟨.int .i64, 1, 8, [.im true (.int .i64 0)], [.int .i64 0]⟩),
  (9, ⟨.str, 1, 16, [.im true (.str ⟨#[]⟩)], [.str ⟨#[]⟩]⟩),
  (24, ⟨.sl 3, 1, 24, [.nil], [.sl 1 []]⟩),
  (26, ⟨.sl 53, 1, 24, [.nil], [.sl 3 []]⟩),
  (38, ⟨.sl 50, 1, 24, [.nil], [.sl 1 []]⟩),
  (50, ⟨.sl 66, 1, 24, [.nil], [.sl 2 []]⟩),
  (53, ⟨.st [(0, 1), (1, 1), (2, 1)], 3, 72, [.nil, .nil, .nil], [.sl 2 [], .sl 6 [], .sl 1 []]⟩),
  (64, ⟨.sl 9, 1, 24, [.nil], [.sl 1 []]⟩),
  (66, ⟨.st [(0, 1), (1, 1)], 2, 32, [.im true (.int .i64 0), .nil], [.int .i64 0, .sl 1 []]⟩)]
theorem TTokb : TabOK Tryz.prog TTb := ⟨.int .i64 (by kernel_rfl) (by kernel_rfl),
  .str (by kernel_rfl) (by kernel_rfl),
  .sl 3 1 (by kernel_rfl) (by kernel_rfl) (by kernel_rfl),
  .sl 53 3 (by kernel_rfl) (by kernel_rfl) (by kernel_rfl),
  .sl 50 1 (by kernel_rfl) (by kernel_rfl) (by kernel_rfl),
  .sl 66 2 (by kernel_rfl) (by kernel_rfl) (by kernel_rfl),
  .st [(0, 1), (1, 1), (2, 1)] (.agg #[(.slice none 0 0), (.slice none 0 0), (.slice none 0 0)]) (by kernel_rfl) (by kernel_rfl) rfl rfl (.inr ⟨rfl, rfl⟩) (by decide),
  .sl 9 1 (by kernel_rfl) (by kernel_rfl) (by kernel_rfl),
  .st [(0, 1), (1, 1)] (.agg #[(.int .i64 0), (.slice none 0 0)]) (by kernel_rfl) (by kernel_rfl) rfl rfl (.inr ⟨rfl, rfl⟩) (by decide), trivial⟩
theorem mixedb : Tryz.prog.follows .mixedOrders = true := by kernel_rfl
theorem tx42b : Text Tryz.prog 42 := Text.of Tryz.func42 rfl (by kernel_rfl)
theorem tx43b : Text Tryz.prog 43 := Text.of Tryz.func43 rfl (by kernel_rfl)
theorem tx75b : Text Tryz.prog 75 := Text.of Tryz.func75 rfl (by kernel_rfl)
theorem tx76b : Text Tryz.prog 76 := Text.of Tryz.func76 rfl (by kernel_rfl)
theorem tx100b : Text Tryz.prog 100 := Text.of Tryz.func100 rfl (by kernel_rfl)

set_option maxRecDepth 100000 in
theorem clip_rI (l : List Int) :
    CallV Tryz.prog 27 [.lf (.im true (.sl 1 (l.map rI)))] (· = .lf (.im true (.sl 1 (l.map rI)))) := by
  refine CallX (fn := Tryz.f27) TTokb mixedb Tryz.func27 rfl rfl rfl rfl rfl fun E c => ?_
  refine vx c [(0, .lf (.im true (.sl 1 (l.map rI))))] [] AllP.nil (by kernel_rfl) ?_
  refine vx c [(4, .lf (.im true (.sl 1 (l.map rI))))] [(2, .slot (.int ((l.length : Nat) : Int))), (4, .slot (.int ((l.length : Nat) : Int))), (5, .cut l.length l.length (.lf (.im true (.sl 1 (l.map rI)))))] (a2 (ln (l := l) (f := rI)) (a2 (ln (l := l) (f := rI)) (a2 (clipz (sz := 1) (l := l) (f := rI)) AllP.nil))) (by kernel_rfl) ?_
  exact xret [.lf (.im true (.sl 1 (l.map rI)))] rfl (by kernel_rfl) (rfl)
set_option maxRecDepth 100000 in
theorem clip_rRecs (l : List (List Rec)) :
    CallV Tryz.prog 43 [.lf (.im true (.sl 1 (l.map rRecs)))] (· = .lf (.im true (.sl 1 (l.map rRecs)))) := by
  refine CallX (fn := Tryz.f43) TTokb mixedb Tryz.func43 rfl rfl rfl rfl rfl fun E c => ?_
  refine vx c [(0, .lf (.im true (.sl 1 (l.map rRecs))))] [] AllP.nil (by kernel_rfl) ?_
  refine vx c [(4, .lf (.im true (.sl 1 (l.map rRecs))))] [(2, .slot (.int ((l.length : Nat) : Int))), (4, .slot (.int ((l.length : Nat) : Int))), (5, .cut l.length l.length (.lf (.im true (.sl 1 (l.map rRecs)))))] (a2 (ln (l := l) (f := rRecs)) (a2 (ln (l := l) (f := rRecs)) (a2 (clipz (sz := 1) (l := l) (f := rRecs)) AllP.nil))) (by kernel_rfl) ?_
  exact xret [.lf (.im true (.sl 1 (l.map rRecs)))] rfl (by kernel_rfl) (rfl)
set_option maxRecDepth 100000 in
theorem clip_rRec (l : List Rec) :
    CallV Tryz.prog 76 [.lf (.im true (.sl 2 (l.map rRec)))] (· = .lf (.im true (.sl 2 (l.map rRec)))) := by
  refine CallX (fn := Tryz.f76) TTokb mixedb Tryz.func76 rfl rfl rfl rfl rfl fun E c => ?_
  refine vx c [(0, .lf (.im true (.sl 2 (l.map rRec))))] [] AllP.nil (by kernel_rfl) ?_
  refine vx c [(4, .lf (.im true (.sl 2 (l.map rRec))))] [(2, .slot (.int ((l.length : Nat) : Int))), (4, .slot (.int ((l.length : Nat) : Int))), (5, .cut l.length l.length (.lf (.im true (.sl 2 (l.map rRec)))))] (a2 (ln (l := l) (f := rRec)) (a2 (ln (l := l) (f := rRec)) (a2 (clipz (sz := 2) (l := l) (f := rRec)) AllP.nil))) (by kernel_rfl) ?_
  exact xret [.lf (.im true (.sl 2 (l.map rRec)))] rfl (by kernel_rfl) (rfl)
set_option maxRecDepth 100000 in
theorem clip_rS (l : List ByteArray) :
    CallV Tryz.prog 100 [.lf (.im true (.sl 1 (l.map rS)))] (· = .lf (.im true (.sl 1 (l.map rS)))) := by
  refine CallX (fn := Tryz.f100) TTokb mixedb Tryz.func100 rfl rfl rfl rfl rfl fun E c => ?_
  refine vx c [(0, .lf (.im true (.sl 1 (l.map rS))))] [] AllP.nil (by kernel_rfl) ?_
  refine vx c [(4, .lf (.im true (.sl 1 (l.map rS))))] [(2, .slot (.int ((l.length : Nat) : Int))), (4, .slot (.int ((l.length : Nat) : Int))), (5, .cut l.length l.length (.lf (.im true (.sl 1 (l.map rS)))))] (a2 (ln (l := l) (f := rS)) (a2 (ln (l := l) (f := rS)) (a2 (clipz (sz := 1) (l := l) (f := rS)) AllP.nil))) (by kernel_rfl) ?_
  exact xret [.lf (.im true (.sl 1 (l.map rS)))] rfl (by kernel_rfl) (rfl)
set_option maxRecDepth 100000 in
theorem impl_copyTexts_v (l : List ByteArray) (ha : l.length ≤ 1048576) :
    CallV Tryz.prog 75 [.lf (.im true (.sl 1 (l.map rS)))] (· = .lf (.im true (.sl 1 (l.map rS)))) := by
  refine CallX (fn := Tryz.f75) TTokb mixedb Tryz.func75 rfl rfl rfl rfl rfl fun E c => ?_
  refine vx c [(0, .lf (.im true (.sl 1 (l.map rS))))] [] AllP.nil (by kernel_rfl) ?_
  refine vx c [(4, .lf (.im true (.sl 1 (l.map rS))))] [(2, .im), (3, .ret (.lf (.im true (.sl 1 (l.map rS)))))] (a2 (ap (a := ([] : List (List SV)).length + ((l.map rS) : List (List SV)).length) (b := 16) (by simp; omega) (by unfold maxLen; simp; omega)) (a2 (cl tx100b (clip_rS l)) AllP.nil)) (by kernel_rfl) ?_
  exact xret [.lf (.im true (.sl 1 (l.map rS)))] rfl (by kernel_rfl) (rfl)
set_option maxRecDepth 100000 in
theorem impl_copyRecords_v (a : List Rec) (ha : a.length ≤ 1048576) (hs : ∀ r ∈ a, r.small) :
    CallV Tryz.prog 42 [.lf (.im true (.sl 2 (a.map rRec)))] (· = .lf (.im true (.sl 2 (a.map rRec)))) := by
  refine CallX (fn := Tryz.f42) TTokb mixedb Tryz.func42 rfl rfl rfl rfl rfl fun E c => ?_
  refine vx c [(0, .lf (.im true (.sl 2 (a.map rRec))))] [] AllP.nil (by kernel_rfl) ?_
  refine vx c [(0, .lf (.im true (.sl 2 (a.map rRec)))), (6, .lf (.u 6 0 66 2 []))] [] AllP.nil (by kernel_rfl) ?_
  refine xw_seq ?_
  refine vx c [(6, .lf (.u 6 0 66 2 [])), (14, .lf (.im true (.sl 2 (a.map rRec)))), (16, .int ((a.length : Nat) : Int)), (18, .int 0)] [(1, .slot (.int ((a.length : Nat) : Int)))] (a2 (ln (l := a) (f := rRec)) AllP.nil) (by kernel_rfl) ?_
  refine xw_block ?_
  refine xw_loop (fun n L => ∃ (i : Nat), L = [(6, .lf (.u 6 0 66 2 ((a.take i).map rRec))), (14, .lf (.im true (.sl 2 (a.map rRec)))), (16, .int ((a.length : Nat) : Int)), (18, .int ((i : Nat) : Int))] ∧ n = a.length - i ∧ (i ≤ a.length)) _ ⟨0, rfl, rfl, by omega⟩ ?_
  rintro n L ⟨i, rfl, rfl, hP1⟩
  refine vx c [(6, .lf (.u 6 0 66 2 ((a.take i).map rRec))), (14, .lf (.im true (.sl 2 (a.map rRec)))), (16, .int ((a.length : Nat) : Int)), (18, .int ((i : Nat) : Int)), (20, .bool (decide ((((i : Nat) : Int) : Int) < ((a.length : Nat) : Int))))] [] AllP.nil (by kernel_rfl) ?_
  refine xw_seq ?_
  refine xw_cond (decide ((((i : Nat) : Int) : Int) < ((a.length : Nat) : Int))) rfl (fun h1 => ?_) (fun h1 => ?_)
  · have h1 := of_dT h1
    refine xw_skip ?_
    refine xw_seq ?_
    refine xw_block ?_
    obtain ⟨x1, hx1⟩ := get_lt (l := a) (i := i) (by omega)
    refine vx c [(6, .lf (.u 6 0 66 2 ((a.take i).map rRec))), (10, .lf (.ptr 5 0)), (11, .cell 5 [.im true (.int .i64 x1.able), .im true (.sl 1 (x1.fields.map rS))]), (14, .lf (.im true (.sl 2 (a.map rRec)))), (16, .int ((a.length : Nat) : Int)), (18, .int ((i : Nat) : Int))] [(0, .row (rRec x1))] (a2 (ix (f := rRec) (l := a) (i := i) hx1) AllP.nil) (by kernel_rfl) ?_
    refine vxe c [(6, .lf (.u 6 0 66 2 ((a.take (i + 1)).map rRec))), (14, .lf (.im true (.sl 2 (a.map rRec)))), (16, .int ((a.length : Nat) : Int)), (18, .int ((i : Nat) : Int))] [(5, .ret (.lf (.im true (.sl 1 (x1.fields.map rS))))), (7, .im), (8, .slot (.lf (.u 6 0 66 2 ((a.take (i + 1)).map rRec))))] (a2 (cl tx75b (impl_copyTexts_v x1.fields (by exact hs _ (List.mem_of_getElem? hx1)))) (a2 (a1 (show (((a.take i).map rRec) ++ [[.int .i64 x1.able, .sl 1 (x1.fields.map rS)]] : List (List SV)) = (a.take (i + 1)).map rRec by exact take_app (f := rRec) (l := a) hx1)) (a2 (hl (((a.take i).map rRec).length)) (a2 (ap (a := ((a.take i).map rRec : List (List SV)).length + ([[.int .i64 x1.able, .sl 1 (x1.fields.map rS)]] : List (List SV)).length) (b := 32) (by simp; omega) (by unfold maxLen; simp; omega)) AllP.nil)))) (by kernel_rfl) ?_
    exact vxe c [(6, .lf (.u 6 0 66 2 ((a.take (i + 1)).map rRec))), (14, .lf (.im true (.sl 2 (a.map rRec)))), (16, .int ((a.length : Nat) : Int)), (18, .int ((i + 1 : Nat) : Int))] [(0, .slot (.int ((i + 1 : Nat) : Int)))] (a2 (wI (a := ((i : Nat) : Int) + 1) (b := ((i + 1 : Nat) : Int)) (by omega) (by omega) (by omega)) AllP.nil) (by kernel_rfl) (⟨_, by omega, (i + 1), rfl, rfl, by omega⟩)
  · have h1 := of_dF h1
    refine xw_exit ?_
    refine xw_fr 3 [(6, .lf (.im true (.sl 2 ((a.take i).map rRec)))), (14, .lf (.im true (.sl 2 (a.map rRec)))), (16, .int ((a.length : Nat) : Int)), (18, .int ((i : Nat) : Int)), (20, .bool (decide ((((i : Nat) : Int) : Int) < ((a.length : Nat) : Int))))] (by kernel_rfl) ?_
    refine vx c [(4, .lf (.im true (.sl 2 ((a.take i).map rRec))))] [(1, .ret (.lf (.im true (.sl 2 ((a.take i).map rRec)))))] (a2 (cl tx76b (clip_rRec (a.take i))) AllP.nil) (by kernel_rfl) ?_
    exact xret [.lf (.im true (.sl 2 ((a.take i).map rRec)))] rfl (by kernel_rfl) (retL (by rw [List.take_of_length_le (by omega)]))
set_option maxRecDepth 100000 in
theorem impl_ShelfKinds_v (a : List Mod) (hs : smallS a) :
    CallV Tryz.prog 18 [.lf (.im true (.sl 3 (a.map rMod)))] (· = .lf (.im true (.sl 1 ((kindsOf a).map rRecs)))) := by
  refine CallX (fn := Tryz.f18) TTokb mixedb Tryz.func18 rfl rfl rfl rfl rfl fun E c => ?_
  have ha := hs.1
  have hkl := kinds_len a
  refine vx c [(0, .lf (.im true (.sl 3 (a.map rMod))))] [] AllP.nil (by kernel_rfl) ?_
  refine vx c [(0, .lf (.im true (.sl 3 (a.map rMod)))), (6, .lf (.u 6 0 50 1 []))] [] AllP.nil (by kernel_rfl) ?_
  refine xw_seq ?_
  refine vx c [(6, .lf (.u 6 0 50 1 [])), (14, .lf (.im true (.sl 3 (a.map rMod)))), (16, .int ((a.length : Nat) : Int)), (18, .int 0)] [(1, .slot (.int ((a.length : Nat) : Int)))] (a2 (ln (l := a) (f := rMod)) AllP.nil) (by kernel_rfl) ?_
  refine xw_block ?_
  refine xw_loop (fun n L => ∃ (i : Nat), L = [(6, .lf (.u 6 0 50 1 (((kindsOf a).take i).map rRecs))), (14, .lf (.im true (.sl 3 (a.map rMod)))), (16, .int ((a.length : Nat) : Int)), (18, .int ((i : Nat) : Int))] ∧ n = a.length - i ∧ (i ≤ a.length)) _ ⟨0, rfl, rfl, by omega⟩ ?_
  rintro n L ⟨i, rfl, rfl, hP1⟩
  refine vx c [(6, .lf (.u 6 0 50 1 (((kindsOf a).take i).map rRecs))), (14, .lf (.im true (.sl 3 (a.map rMod)))), (16, .int ((a.length : Nat) : Int)), (18, .int ((i : Nat) : Int)), (20, .bool (decide ((((i : Nat) : Int) : Int) < ((a.length : Nat) : Int))))] [] AllP.nil (by kernel_rfl) ?_
  refine xw_seq ?_
  refine xw_cond (decide ((((i : Nat) : Int) : Int) < ((a.length : Nat) : Int))) rfl (fun h1 => ?_) (fun h1 => ?_)
  · have h1 := of_dT h1
    refine xw_skip ?_
    refine xw_seq ?_
    refine xw_block ?_
    obtain ⟨x1, hx1⟩ := get_lt (l := a) (i := i) (by omega)
    refine vx c [(6, .lf (.u 6 0 50 1 (((kindsOf a).take i).map rRecs))), (10, .lf (.ptr 5 0)), (11, .cell 5 [.im true (.sl 2 (x1.records.map rRec)), .im true (.sl 6 (x1.funcs.map rFn)), .im true (.sl 1 (x1.friends.map rI))]), (14, .lf (.im true (.sl 3 (a.map rMod)))), (16, .int ((a.length : Nat) : Int)), (18, .int ((i : Nat) : Int))] [(0, .row (rMod x1))] (a2 (ix (f := rMod) (l := a) (i := i) hx1) AllP.nil) (by kernel_rfl) ?_
    refine vxe c [(6, .lf (.u 6 0 50 1 (((kindsOf a).take (i + 1)).map rRecs))), (14, .lf (.im true (.sl 3 (a.map rMod)))), (16, .int ((a.length : Nat) : Int)), (18, .int ((i : Nat) : Int))] [(3, .ret (.lf (.im true (.sl 2 (x1.records.map rRec))))), (4, .im), (5, .slot (.lf (.u 6 0 50 1 (((kindsOf a).take (i + 1)).map rRecs))))] (a2 (cl tx42b (impl_copyRecords_v x1.records (by exact (hs.2 _ (List.mem_of_getElem? hx1)).1.1) (by exact (hs.2 _ (List.mem_of_getElem? hx1)).1.2))) (a2 (a1 (show ((((kindsOf a).take i).map rRecs) ++ [[.sl 2 (x1.records.map rRec)]] : List (List SV)) = ((kindsOf a).take (i + 1)).map rRecs by exact take_app (f := rRecs) (l := kindsOf a) (kinds_at hx1))) (a2 (hl ((((kindsOf a).take i).map rRecs).length)) (a2 (ap (a := (((kindsOf a).take i).map rRecs : List (List SV)).length + ([[.sl 2 (x1.records.map rRec)]] : List (List SV)).length) (b := 24) (by simp; omega) (by unfold maxLen; simp; omega)) AllP.nil)))) (by kernel_rfl) ?_
    exact vxe c [(6, .lf (.u 6 0 50 1 (((kindsOf a).take (i + 1)).map rRecs))), (14, .lf (.im true (.sl 3 (a.map rMod)))), (16, .int ((a.length : Nat) : Int)), (18, .int ((i + 1 : Nat) : Int))] [(0, .slot (.int ((i + 1 : Nat) : Int)))] (a2 (wI (a := ((i : Nat) : Int) + 1) (b := ((i + 1 : Nat) : Int)) (by omega) (by omega) (by omega)) AllP.nil) (by kernel_rfl) (⟨_, by omega, (i + 1), rfl, rfl, by omega⟩)
  · have h1 := of_dF h1
    refine xw_exit ?_
    refine xw_fr 3 [(6, .lf (.im true (.sl 1 (((kindsOf a).take i).map rRecs)))), (14, .lf (.im true (.sl 3 (a.map rMod)))), (16, .int ((a.length : Nat) : Int)), (18, .int ((i : Nat) : Int)), (20, .bool (decide ((((i : Nat) : Int) : Int) < ((a.length : Nat) : Int))))] (by kernel_rfl) ?_
    refine vx c [(4, .lf (.im true (.sl 1 (((kindsOf a).take i).map rRecs))))] [(1, .ret (.lf (.im true (.sl 1 (((kindsOf a).take i).map rRecs)))))] (a2 (cl tx43b (clip_rRecs ((kindsOf a).take i))) AllP.nil) (by kernel_rfl) ?_
    exact xret [.lf (.im true (.sl 1 (((kindsOf a).take i).map rRecs)))] rfl (by kernel_rfl) (retL (by rw [List.take_of_length_le (by omega)]))
set_option maxRecDepth 100000 in
theorem spec_ShelfKinds_v (a : List Mod) (hs : smallS a) :
    CallV Tryz.prog 34 [.lf (.im true (.sl 3 (a.map rMod)))] (· = .lf (.im true (.sl 1 ((kindsOf a).map rRecs)))) := by
  refine CallX (fn := Tryz.f34) TTokb mixedb Tryz.func34 rfl rfl rfl rfl rfl fun E c => ?_
  have ha := hs.1
  have hkl := kinds_len a
  refine vx c [(0, .lf (.im true (.sl 3 (a.map rMod))))] [] AllP.nil (by kernel_rfl) ?_
  refine vx c [(0, .lf (.im true (.sl 3 (a.map rMod)))), (6, .lf (.u 8 0 50 1 []))] [] AllP.nil (by kernel_rfl) ?_
  refine xw_seq ?_
  refine vx c [(0, .lf (.im true (.sl 3 (a.map rMod)))), (6, .lf (.u 8 0 50 1 [])), (8, .int 0)] [] AllP.nil (by kernel_rfl) ?_
  refine xw_block ?_
  refine xw_loop (fun n L => ∃ (i : Nat), L = [(0, .lf (.im true (.sl 3 (a.map rMod)))), (6, .lf (.u 8 0 50 1 (((kindsOf a).take i).map rRecs))), (8, .int ((i : Nat) : Int))] ∧ n = a.length - i ∧ (i ≤ a.length)) _ ⟨0, rfl, rfl, by omega⟩ ?_
  rintro n L ⟨i, rfl, rfl, hP1⟩
  refine xw_seq ?_
  refine vx c [(0, .lf (.im true (.sl 3 (a.map rMod)))), (6, .lf (.u 8 0 50 1 (((kindsOf a).take i).map rRecs))), (8, .int ((i : Nat) : Int)), (24, .bool (decide ((((i : Nat) : Int) : Int) < ((a.length : Nat) : Int))))] [(2, .slot (.int ((a.length : Nat) : Int)))] (a2 (ln (l := a) (f := rMod)) AllP.nil) (by kernel_rfl) ?_
  refine xw_cond (decide ((((i : Nat) : Int) : Int) < ((a.length : Nat) : Int))) rfl (fun h1 => ?_) (fun h1 => ?_)
  · have h1 := of_dT h1
    obtain ⟨x1, hx1⟩ := get_lt (l := a) (i := i) (by omega)
    have hm := hs.2 _ (List.mem_of_getElem? hx1)
    have hm1 := hm.1.1
    refine xw_skip ?_
    refine xw_seq ?_
    refine xw_block ?_
    refine vx c [(0, .lf (.im true (.sl 3 (a.map rMod)))), (6, .lf (.u 8 0 50 1 (((kindsOf a).take i).map rRecs))), (8, .int ((i : Nat) : Int)), (10, .lf (.u 15 0 66 2 []))] [] AllP.nil (by kernel_rfl) ?_
    refine xw_seq ?_
    refine vx c [(0, .lf (.im true (.sl 3 (a.map rMod)))), (6, .lf (.u 8 0 50 1 (((kindsOf a).take i).map rRecs))), (8, .int ((i : Nat) : Int)), (10, .lf (.u 15 0 66 2 [])), (12, .int 0)] [] AllP.nil (by kernel_rfl) ?_
    refine xw_block ?_
    refine xw_loop (fun n L => ∃ (k : Nat), L = [(0, .lf (.im true (.sl 3 (a.map rMod)))), (6, .lf (.u 8 0 50 1 (((kindsOf a).take i).map rRecs))), (8, .int ((i : Nat) : Int)), (10, .lf (.u 15 0 66 2 ((x1.records.take k).map rRec))), (12, .int ((k : Nat) : Int))] ∧ n = x1.records.length - k ∧ (k ≤ x1.records.length)) _ ⟨0, rfl, rfl, by omega⟩ ?_
    rintro n L ⟨k, rfl, rfl, hP2⟩
    refine xw_seq ?_
    refine vx c [(0, .lf (.im true (.sl 3 (a.map rMod)))), (6, .lf (.u 8 0 50 1 (((kindsOf a).take i).map rRecs))), (8, .int ((i : Nat) : Int)), (10, .lf (.u 15 0 66 2 ((x1.records.take k).map rRec))), (12, .int ((k : Nat) : Int)), (46, .bool (decide ((((k : Nat) : Int) : Int) < ((x1.records.length : Nat) : Int))))] [(3, .row (rMod x1)), (6, .slot (.int ((x1.records.length : Nat) : Int)))] (a2 (ix (f := rMod) (l := a) (i := i) hx1) (a2 (ln (l := x1.records) (f := rRec)) AllP.nil)) (by kernel_rfl) ?_
    refine xw_cond (decide ((((k : Nat) : Int) : Int) < ((x1.records.length : Nat) : Int))) rfl (fun h2 => ?_) (fun h2 => ?_)
    · have h2 := of_dT h2
      obtain ⟨x2, hx2⟩ := get_lt (l := x1.records) (i := k) (by omega)
      have hx2s : x2.fields.length ≤ 1048576 := hm.1.2 _ (List.mem_of_getElem? hx2)
      refine xw_skip ?_
      refine xw_seq ?_
      refine xw_block ?_
      refine vx c [(0, .lf (.im true (.sl 3 (a.map rMod)))), (6, .lf (.u 8 0 50 1 (((kindsOf a).take i).map rRecs))), (8, .int ((i : Nat) : Int)), (10, .lf (.u 15 0 66 2 ((x1.records.take k).map rRec))), (12, .int ((k : Nat) : Int)), (14, .lf (.ptr 7 0)), (15, .cell 7 [.im true (.int .i64 x2.able), .im true (.sl 1 (x2.fields.map rS))])] [(2, .row (rMod x1)), (6, .row (rRec x2))] (a2 (ix (f := rMod) (l := a) (i := i) hx1) (a2 (ix (f := rRec) (l := x1.records) (i := k) hx2) AllP.nil)) (by kernel_rfl) ?_
      refine vxe c [(0, .lf (.im true (.sl 3 (a.map rMod)))), (6, .lf (.u 8 0 50 1 (((kindsOf a).take i).map rRecs))), (8, .int ((i : Nat) : Int)), (10, .lf (.u 15 0 66 2 ((x1.records.take (k + 1)).map rRec))), (12, .int ((k : Nat) : Int))] [(6, .im), (8, .im), (9, .slot (.lf (.u 15 0 66 2 ((x1.records.take (k + 1)).map rRec))))] (a2 (ap (a := ([] : List (List SV)).length + ((x2.fields.map rS) : List (List SV)).length) (b := 16) (by simp; omega) (by unfold maxLen; simp; omega)) (a2 (a1 (show (((x1.records.take k).map rRec) ++ [[.int .i64 x2.able, .sl 1 (x2.fields.map rS)]] : List (List SV)) = (x1.records.take (k + 1)).map rRec by exact take_app (f := rRec) (l := x1.records) hx2)) (a2 (hl (((x1.records.take k).map rRec).length)) (a2 (ap (a := ((x1.records.take k).map rRec : List (List SV)).length + ([[.int .i64 x2.able, .sl 1 (x2.fields.map rS)]] : List (List SV)).length) (b := 32) (by simp; omega) (by unfold maxLen; simp; omega)) AllP.nil)))) (by kernel_rfl) ?_
      exact vxe c [(0, .lf (.im true (.sl 3 (a.map rMod)))), (6, .lf (.u 8 0 50 1 (((kindsOf a).take i).map rRecs))), (8, .int ((i : Nat) : Int)), (10, .lf (.u 15 0 66 2 ((x1.records.take (k + 1)).map rRec))), (12, .int ((k + 1 : Nat) : Int))] [(1, .slot (.int ((k + 1 : Nat) : Int)))] (a2 (wI (a := ((k : Nat) : Int) + 1) (b := ((k + 1 : Nat) : Int)) (by omega) (by omega) (by omega)) AllP.nil) (by kernel_rfl) (⟨_, by omega, (k + 1), rfl, rfl, by omega⟩)
    · have h2 := of_dF h2
      refine xw_exit ?_
      refine xw_fr 5 [(0, .lf (.im true (.sl 3 (a.map rMod)))), (6, .lf (.u 8 0 50 1 (((kindsOf a).take i).map rRecs))), (8, .int ((i : Nat) : Int)), (10, .lf (.im true (.sl 2 ((x1.records.take k).map rRec)))), (12, .int ((k : Nat) : Int)), (46, .bool (decide ((((k : Nat) : Int) : Int) < ((x1.records.length : Nat) : Int))))] (by kernel_rfl) ?_
      refine vxe c [(0, .lf (.im true (.sl 3 (a.map rMod)))), (6, .lf (.u 8 0 50 1 (((kindsOf a).take (i + 1)).map rRecs))), (8, .int ((i : Nat) : Int))] [(2, .im), (3, .slot (.lf (.u 8 0 50 1 (((kindsOf a).take (i + 1)).map rRecs))))] (a2 (a1 (show ((((kindsOf a).take i).map rRecs) ++ [[.sl 2 ((x1.records.take k).map rRec)]] : List (List SV)) = ((kindsOf a).take (i + 1)).map rRecs by rw [List.take_of_length_le (l := x1.records) (by omega)]; exact take_app (f := rRecs) (l := kindsOf a) (kinds_at hx1))) (a2 (hl ((((kindsOf a).take i).map rRecs).length)) (a2 (ap (a := (((kindsOf a).take i).map rRecs : List (List SV)).length + ([[.sl 2 ((x1.records.take k).map rRec)]] : List (List SV)).length) (b := 24) (by simp; omega) (by unfold maxLen; simp; omega)) AllP.nil))) (by kernel_rfl) ?_
      exact vxe c [(0, .lf (.im true (.sl 3 (a.map rMod)))), (6, .lf (.u 8 0 50 1 (((kindsOf a).take (i + 1)).map rRecs))), (8, .int ((i + 1 : Nat) : Int))] [(1, .slot (.int ((i + 1 : Nat) : Int)))] (a2 (wI (a := ((i : Nat) : Int) + 1) (b := ((i + 1 : Nat) : Int)) (by omega) (by omega) (by omega)) AllP.nil) (by kernel_rfl) (⟨_, by omega, (i + 1), rfl, rfl, by omega⟩)
  · have h1 := of_dF h1
    refine xw_exit ?_
    refine xw_fr 3 [(0, .lf (.im true (.sl 3 (a.map rMod)))), (6, .lf (.im true (.sl 1 (((kindsOf a).take i).map rRecs)))), (8, .int ((i : Nat) : Int)), (24, .bool (decide ((((i : Nat) : Int) : Int) < ((a.length : Nat) : Int))))] (by kernel_rfl) ?_
    refine vx c [(4, .lf (.im true (.sl 1 (((kindsOf a).take i).map rRecs))))] [] AllP.nil (by kernel_rfl) ?_
    exact xret [.lf (.im true (.sl 1 (((kindsOf a).take i).map rRecs)))] rfl (by kernel_rfl) (retL (by rw [List.take_of_length_le (by omega)]))
set_option maxRecDepth 100000 in
theorem impl_copyTexts_vL (l : List ByteArray) (ha : l.length ≤ 1048576) :
    CallV Tryz.prog 75 [.lf (.im false (.sl 1 (l.map rS)))] (· = .lf (.im true (.sl 1 (l.map rS)))) := by
  refine CallX (fn := Tryz.f75) TTokb mixedb Tryz.func75 rfl rfl rfl rfl rfl fun E c => ?_
  refine vx c [(0, .lf (.im false (.sl 1 (l.map rS))))] [] AllP.nil (by kernel_rfl) ?_
  refine vx c [(4, .lf (.im true (.sl 1 (l.map rS))))] [(2, .im), (3, .ret (.lf (.im true (.sl 1 (l.map rS)))))] (a2 (a1 (scal_rS l)) (a2 (ap (a := ([] : List (List SV)).length + ((l.map rS) : List (List SV)).length) (b := 16) (by simp; omega) (by unfold maxLen; simp; omega)) (a2 (cl tx100b (clip_rS l)) AllP.nil))) (by kernel_rfl) ?_
  exact xret [.lf (.im true (.sl 1 (l.map rS)))] rfl (by kernel_rfl) (rfl)
set_option maxRecDepth 100000 in
theorem impl_copyRecords_vL (a : List Rec) (ha : a.length ≤ 1048576) (hs : ∀ r ∈ a, r.small) :
    CallV Tryz.prog 42 [.lf (.im false (.sl 2 (a.map rRec)))] (· = .lf (.im true (.sl 2 (a.map rRec)))) := by
  refine CallX (fn := Tryz.f42) TTokb mixedb Tryz.func42 rfl rfl rfl rfl rfl fun E c => ?_
  refine vx c [(0, .lf (.im false (.sl 2 (a.map rRec))))] [] AllP.nil (by kernel_rfl) ?_
  refine vx c [(0, .lf (.im false (.sl 2 (a.map rRec)))), (6, .lf (.u 6 0 66 2 []))] [] AllP.nil (by kernel_rfl) ?_
  refine xw_seq ?_
  refine vx c [(6, .lf (.u 6 0 66 2 [])), (14, .lf (.im false (.sl 2 (a.map rRec)))), (16, .int ((a.length : Nat) : Int)), (18, .int 0)] [(1, .slot (.int ((a.length : Nat) : Int)))] (a2 (ln (l := a) (f := rRec)) AllP.nil) (by kernel_rfl) ?_
  refine xw_block ?_
  refine xw_loop (fun n L => ∃ (i : Nat), L = [(6, .lf (.u 6 0 66 2 ((a.take i).map rRec))), (14, .lf (.im false (.sl 2 (a.map rRec)))), (16, .int ((a.length : Nat) : Int)), (18, .int ((i : Nat) : Int))] ∧ n = a.length - i ∧ (i ≤ a.length)) _ ⟨0, rfl, rfl, by omega⟩ ?_
  rintro n L ⟨i, rfl, rfl, hP1⟩
  refine vx c [(6, .lf (.u 6 0 66 2 ((a.take i).map rRec))), (14, .lf (.im false (.sl 2 (a.map rRec)))), (16, .int ((a.length : Nat) : Int)), (18, .int ((i : Nat) : Int)), (20, .bool (decide ((((i : Nat) : Int) : Int) < ((a.length : Nat) : Int))))] [] AllP.nil (by kernel_rfl) ?_
  refine xw_seq ?_
  refine xw_cond (decide ((((i : Nat) : Int) : Int) < ((a.length : Nat) : Int))) rfl (fun h1 => ?_) (fun h1 => ?_)
  · have h1 := of_dT h1
    refine xw_skip ?_
    refine xw_seq ?_
    refine xw_block ?_
    obtain ⟨x1, hx1⟩ := get_lt (l := a) (i := i) (by omega)
    refine vx c [(6, .lf (.u 6 0 66 2 ((a.take i).map rRec))), (10, .lf (.ptr 5 0)), (11, .cell 5 [.im true (.int .i64 x1.able), .im false (.sl 1 (x1.fields.map rS))]), (14, .lf (.im false (.sl 2 (a.map rRec)))), (16, .int ((a.length : Nat) : Int)), (18, .int ((i : Nat) : Int))] [(0, .row (rRec x1))] (a2 (ix (f := rRec) (l := a) (i := i) hx1) AllP.nil) (by kernel_rfl) ?_
    refine vxe c [(6, .lf (.u 6 0 66 2 ((a.take (i + 1)).map rRec))), (14, .lf (.im false (.sl 2 (a.map rRec)))), (16, .int ((a.length : Nat) : Int)), (18, .int ((i : Nat) : Int))] [(5, .ret (.lf (.im true (.sl 1 (x1.fields.map rS))))), (7, .im), (8, .slot (.lf (.u 6 0 66 2 ((a.take (i + 1)).map rRec))))] (a2 (cl tx75b (impl_copyTexts_vL x1.fields (by exact hs _ (List.mem_of_getElem? hx1)))) (a2 (a1 (show (((a.take i).map rRec) ++ [[.int .i64 x1.able, .sl 1 (x1.fields.map rS)]] : List (List SV)) = (a.take (i + 1)).map rRec by exact take_app (f := rRec) (l := a) hx1)) (a2 (hl (((a.take i).map rRec).length)) (a2 (ap (a := ((a.take i).map rRec : List (List SV)).length + ([[.int .i64 x1.able, .sl 1 (x1.fields.map rS)]] : List (List SV)).length) (b := 32) (by simp; omega) (by unfold maxLen; simp; omega)) AllP.nil)))) (by kernel_rfl) ?_
    exact vxe c [(6, .lf (.u 6 0 66 2 ((a.take (i + 1)).map rRec))), (14, .lf (.im false (.sl 2 (a.map rRec)))), (16, .int ((a.length : Nat) : Int)), (18, .int ((i + 1 : Nat) : Int))] [(0, .slot (.int ((i + 1 : Nat) : Int)))] (a2 (wI (a := ((i : Nat) : Int) + 1) (b := ((i + 1 : Nat) : Int)) (by omega) (by omega) (by omega)) AllP.nil) (by kernel_rfl) (⟨_, by omega, (i + 1), rfl, rfl, by omega⟩)
  · have h1 := of_dF h1
    refine xw_exit ?_
    refine xw_fr 3 [(6, .lf (.im true (.sl 2 ((a.take i).map rRec)))), (14, .lf (.im false (.sl 2 (a.map rRec)))), (16, .int ((a.length : Nat) : Int)), (18, .int ((i : Nat) : Int)), (20, .bool (decide ((((i : Nat) : Int) : Int) < ((a.length : Nat) : Int))))] (by kernel_rfl) ?_
    refine vx c [(4, .lf (.im true (.sl 2 ((a.take i).map rRec))))] [(1, .ret (.lf (.im true (.sl 2 ((a.take i).map rRec)))))] (a2 (cl tx76b (clip_rRec (a.take i))) AllP.nil) (by kernel_rfl) ?_
    exact xret [.lf (.im true (.sl 2 ((a.take i).map rRec)))] rfl (by kernel_rfl) (retL (by rw [List.take_of_length_le (by omega)]))
set_option maxRecDepth 100000 in
theorem impl_ShelfKinds_vL (a : List Mod) (hs : smallS a) :
    CallV Tryz.prog 18 [.lf (.im false (.sl 3 (a.map rMod)))] (· = .lf (.im true (.sl 1 ((kindsOf a).map rRecs)))) := by
  refine CallX (fn := Tryz.f18) TTokb mixedb Tryz.func18 rfl rfl rfl rfl rfl fun E c => ?_
  have ha := hs.1
  have hkl := kinds_len a
  refine vx c [(0, .lf (.im false (.sl 3 (a.map rMod))))] [] AllP.nil (by kernel_rfl) ?_
  refine vx c [(0, .lf (.im false (.sl 3 (a.map rMod)))), (6, .lf (.u 6 0 50 1 []))] [] AllP.nil (by kernel_rfl) ?_
  refine xw_seq ?_
  refine vx c [(6, .lf (.u 6 0 50 1 [])), (14, .lf (.im false (.sl 3 (a.map rMod)))), (16, .int ((a.length : Nat) : Int)), (18, .int 0)] [(1, .slot (.int ((a.length : Nat) : Int)))] (a2 (ln (l := a) (f := rMod)) AllP.nil) (by kernel_rfl) ?_
  refine xw_block ?_
  refine xw_loop (fun n L => ∃ (i : Nat), L = [(6, .lf (.u 6 0 50 1 (((kindsOf a).take i).map rRecs))), (14, .lf (.im false (.sl 3 (a.map rMod)))), (16, .int ((a.length : Nat) : Int)), (18, .int ((i : Nat) : Int))] ∧ n = a.length - i ∧ (i ≤ a.length)) _ ⟨0, rfl, rfl, by omega⟩ ?_
  rintro n L ⟨i, rfl, rfl, hP1⟩
  refine vx c [(6, .lf (.u 6 0 50 1 (((kindsOf a).take i).map rRecs))), (14, .lf (.im false (.sl 3 (a.map rMod)))), (16, .int ((a.length : Nat) : Int)), (18, .int ((i : Nat) : Int)), (20, .bool (decide ((((i : Nat) : Int) : Int) < ((a.length : Nat) : Int))))] [] AllP.nil (by kernel_rfl) ?_
  refine xw_seq ?_
  refine xw_cond (decide ((((i : Nat) : Int) : Int) < ((a.length : Nat) : Int))) rfl (fun h1 => ?_) (fun h1 => ?_)
  · have h1 := of_dT h1
    refine xw_skip ?_
    refine xw_seq ?_
    refine xw_block ?_
    obtain ⟨x1, hx1⟩ := get_lt (l := a) (i := i) (by omega)
    refine vx c [(6, .lf (.u 6 0 50 1 (((kindsOf a).take i).map rRecs))), (10, .lf (.ptr 5 0)), (11, .cell 5 [.im false (.sl 2 (x1.records.map rRec)), .im false (.sl 6 (x1.funcs.map rFn)), .im false (.sl 1 (x1.friends.map rI))]), (14, .lf (.im false (.sl 3 (a.map rMod)))), (16, .int ((a.length : Nat) : Int)), (18, .int ((i : Nat) : Int))] [(0, .row (rMod x1))] (a2 (ix (f := rMod) (l := a) (i := i) hx1) AllP.nil) (by kernel_rfl) ?_
    refine vxe c [(6, .lf (.u 6 0 50 1 (((kindsOf a).take (i + 1)).map rRecs))), (14, .lf (.im false (.sl 3 (a.map rMod)))), (16, .int ((a.length : Nat) : Int)), (18, .int ((i : Nat) : Int))] [(3, .ret (.lf (.im true (.sl 2 (x1.records.map rRec))))), (4, .im), (5, .slot (.lf (.u 6 0 50 1 (((kindsOf a).take (i + 1)).map rRecs))))] (a2 (cl tx42b (impl_copyRecords_vL x1.records (by exact (hs.2 _ (List.mem_of_getElem? hx1)).1.1) (by exact (hs.2 _ (List.mem_of_getElem? hx1)).1.2))) (a2 (a1 (show ((((kindsOf a).take i).map rRecs) ++ [[.sl 2 (x1.records.map rRec)]] : List (List SV)) = ((kindsOf a).take (i + 1)).map rRecs by exact take_app (f := rRecs) (l := kindsOf a) (kinds_at hx1))) (a2 (hl ((((kindsOf a).take i).map rRecs).length)) (a2 (ap (a := (((kindsOf a).take i).map rRecs : List (List SV)).length + ([[.sl 2 (x1.records.map rRec)]] : List (List SV)).length) (b := 24) (by simp; omega) (by unfold maxLen; simp; omega)) AllP.nil)))) (by kernel_rfl) ?_
    exact vxe c [(6, .lf (.u 6 0 50 1 (((kindsOf a).take (i + 1)).map rRecs))), (14, .lf (.im false (.sl 3 (a.map rMod)))), (16, .int ((a.length : Nat) : Int)), (18, .int ((i + 1 : Nat) : Int))] [(0, .slot (.int ((i + 1 : Nat) : Int)))] (a2 (wI (a := ((i : Nat) : Int) + 1) (b := ((i + 1 : Nat) : Int)) (by omega) (by omega) (by omega)) AllP.nil) (by kernel_rfl) (⟨_, by omega, (i + 1), rfl, rfl, by omega⟩)
  · have h1 := of_dF h1
    refine xw_exit ?_
    refine xw_fr 3 [(6, .lf (.im true (.sl 1 (((kindsOf a).take i).map rRecs)))), (14, .lf (.im false (.sl 3 (a.map rMod)))), (16, .int ((a.length : Nat) : Int)), (18, .int ((i : Nat) : Int)), (20, .bool (decide ((((i : Nat) : Int) : Int) < ((a.length : Nat) : Int))))] (by kernel_rfl) ?_
    refine vx c [(4, .lf (.im true (.sl 1 (((kindsOf a).take i).map rRecs))))] [(1, .ret (.lf (.im true (.sl 1 (((kindsOf a).take i).map rRecs)))))] (a2 (cl tx43b (clip_rRecs ((kindsOf a).take i))) AllP.nil) (by kernel_rfl) ?_
    exact xret [.lf (.im true (.sl 1 (((kindsOf a).take i).map rRecs)))] rfl (by kernel_rfl) (retL (by rw [List.take_of_length_le (by omega)]))
end Go.Proofs.YtahciphhopiipaaGreatDoor
