import Derived.Test.YtahciphhopiipaaDoorM1
import Derived.Test.YtahciphhopiipaaDoorD4
import Derived.KernelRfl
set_option linter.unusedVariables false
set_option linter.unusedSimpArgs false
namespace Go.Proofs.YtahciphhopiipaaDoor
open Go Go.RowKit V
def TTq : Tab := [(3, ⟨.int .i64, 1, 8, [.im true (.int .i64 0)], [.int .i64 0]⟩),
  (5, ⟨.int .u8, 1, 1, [.im true (.int .u8 0)], [.int .u8 0]⟩),
  (9, ⟨.str, 1, 16, [.im true (.str ⟨#[]⟩)], [.str ⟨#[]⟩]⟩),
  (31, ⟨.sl 3, 1, 24, [.nil], [.sl 1 []]⟩),
  (49, ⟨.sl 9, 1, 24, [.nil], [.sl 1 []]⟩),
  (64, ⟨.st [(0, 1), (1, 1), (2, 1)], 3, 32, [.im true (.str ⟨#[]⟩), .im true (.int .i64 0), .im true (.int .i64 0)], [.str ⟨#[]⟩, .int .i64 0, .int .i64 0]⟩),
  (69, ⟨.sl 5, 1, 24, [.nil], [.sl 1 []]⟩),
  (103, ⟨.st [(0, 1), (1, 1), (2, 1)], 3, 32, [.im true (.str ⟨#[]⟩), .im true (.int .i64 0), .im true (.int .i64 0)], [.str ⟨#[]⟩, .int .i64 0, .int .i64 0]⟩)]
theorem TTokq : TabOK Tryd.prog TTq := ⟨.int .i64 (by kernel_rfl) (by kernel_rfl),
  .int .u8 (by kernel_rfl) (by kernel_rfl),
  .str (by kernel_rfl) (by kernel_rfl),
  .sl 3 1 (by kernel_rfl) (by kernel_rfl) (by kernel_rfl),
  .sl 9 1 (by kernel_rfl) (by kernel_rfl) (by kernel_rfl),
  .st [(0, 1), (1, 1), (2, 1)] (.agg #[(.string ⟨#[]⟩), (.int .i64 0), (.int .i64 0)]) (by kernel_rfl) (by kernel_rfl) rfl rfl (.inr ⟨rfl, rfl⟩) (by decide),
  .sl 5 1 (by kernel_rfl) (by kernel_rfl) (by kernel_rfl),
  .st [(0, 1), (1, 1), (2, 1)] (.agg #[(.string ⟨#[]⟩), (.int .i64 0), (.int .i64 0)]) (by kernel_rfl) (by kernel_rfl) rfl rfl (.inr ⟨rfl, rfl⟩) (by decide), trivial⟩
theorem mixedq : Tryd.prog.follows .mixedOrders = true := by kernel_rfl
theorem tx27q : Text Tryd.prog 27 := Text.of Tryd.func27 rfl (by kernel_rfl)
theorem tx35q : Text Tryd.prog 35 := Text.of Tryd.func35 rfl (by kernel_rfl)
theorem tx56q : Text Tryd.prog 56 := Text.of Tryd.func56 rfl (by kernel_rfl)
theorem tx62q : Text Tryd.prog 62 := Text.of Tryd.func62 rfl (by kernel_rfl)
theorem tx63q : Text Tryd.prog 63 := Text.of Tryd.func63 rfl (by kernel_rfl)

set_option maxRecDepth 100000 in
theorem dec_step (k : Nat) (ih : ∀ n, dm n < k → inR n → CallV Tryd.prog 27 [.lf (.im true (.int .i64 n))] (· = .lf (.im true (.str (decB n))))) (n : Int) (hk : dm n ≤ k) (hn : inR n) :
    CallV Tryd.prog 27 [.lf (.im true (.int .i64 n))] (· = .lf (.im true (.str (decB n)))) := by
  refine CallX (fn := Tryd.f27) TTokq mixedq Tryd.func27 rfl rfl rfl rfl rfl fun E c => ?_
  have hn0 := hn.1
  have hn1 := hn.2
  refine vx c [(0, .int n)] [] AllP.nil (by kernel_rfl) ?_
  refine xw_seq ?_
  refine vx c [(0, .int n), (8, .bool (decide ((n : Int) < (-9223372036854775807))))] [] AllP.nil (by kernel_rfl) ?_
  refine xw_cond (decide ((n : Int) < (-9223372036854775807))) rfl (fun h1 => ?_) (fun h1 => ?_)
  · have h1 := of_dT h1
    refine vx c [(4, .lf (.im true (.str (⟨#[45, 57, 50, 50, 51, 51, 55, 50, 48, 51, 54, 56, 53, 52, 55, 55, 53, 56, 48, 56]⟩ : ByteArray))))] [] AllP.nil (by kernel_rfl) ?_
    exact xret [.lf (.im true (.str (⟨#[45, 57, 50, 50, 51, 51, 55, 50, 48, 51, 54, 56, 53, 52, 55, 55, 53, 56, 48, 56]⟩ : ByteArray)))] rfl (by kernel_rfl) (retS (dec_min h1 hn))
  · have h1 := of_dF h1
    refine xw_skip ?_
    refine xw_seq ?_
    refine vx c [(0, .int n), (12, .bool (decide ((n : Int) < 0)))] [] AllP.nil (by kernel_rfl) ?_
    refine xw_cond (decide ((n : Int) < 0)) rfl (fun h2 => ?_) (fun h2 => ?_)
    · have h2 := of_dT h2
      have s1 := decB_size (n := -n) ⟨by omega, by omega⟩
      refine vx c [(4, .lf (.im true (.str ((⟨#[45]⟩ : ByteArray) ++ (decB (-n))))))] [(1, .slot (.int (-n))), (2, .ret (.lf (.im true (.str (decB (-n))))))] (a2 (wI (a := 0 - n) (b := -n) (by omega) (by omega) (by omega)) (a2 (cl tx27q (ih (-n) (by unfold dm at *; split at hk <;> split <;> omega) ⟨by omega, by omega⟩)) (a2 (a1 (StrFit.mk (a := (⟨#[45]⟩ : ByteArray)) (b := (decB (-n))) (by exact strb (by simp only [ByteArray.size_append, bl_size, bsz, List.length_cons, List.length_nil, List.length_append, thL_len, dg_size]; omega)))) AllP.nil))) (by kernel_rfl) ?_
      exact xret [.lf (.im true (.str ((⟨#[45]⟩ : ByteArray) ++ (decB (-n)))))] rfl (by kernel_rfl) (retS (dec_neg h2))
    · have h2 := of_dF h2
      refine xw_skip ?_
      refine xw_seq ?_
      refine vx c [(0, .int n), (24, .bool (decide ((n : Int) < 10)))] [] AllP.nil (by kernel_rfl) ?_
      refine xw_cond (decide ((n : Int) < 10)) rfl (fun h3 => ?_) (fun h3 => ?_)
      · have h3 := of_dT h3
        refine vx c [(4, .lf (.im true (.str (dg n))))] [(1, .slot (.int (48 + n))), (2, .slot (.lf (.im true (.int .u8 (48 + n))))), (3, .im), (4, .slot (.lf (.im true (.str (dg n)))))] (a2 (wI (a := 48 + n) (b := 48 + n) (by omega) (by omega) (by omega)) (a2 (a1 (show (Slot.im (.int .u8 (IntKind.wrap .u8 (48 + n))) : Slot) = .lf (.im true (.int .u8 (48 + n))) by rw [show IntKind.wrap .u8 (48 + n) = (48 + n) from by simp [IntKind.wrap, IntKind.signed, IntKind.bits]; omega])) (a2 (a1 (show ([[.int .u8 (48 + n)]] : List (List SV)) = bytesR (dg n) by exact dg_rows (by omega) (by omega))) AllP.nil))) (by kernel_rfl) ?_
        exact xret [.lf (.im true (.str (dg n)))] rfl (by kernel_rfl) (retS (dec_lt h2 h3))
      · have h3 := of_dF h3
        have s2 := decB_size (n := n / 10) ⟨by omega, by omega⟩
        refine xw_skip ?_
        refine vx c [(4, .lf (.im true (.str ((decB (n / 10)) ++ (dg (n % 10))))))] [(1, .slot (.int (n / 10))), (2, .ret (.lf (.im true (.str (decB (n / 10)))))), (4, .slot (.int (n % 10))), (5, .slot (.int (48 + (n % 10)))), (6, .slot (.lf (.im true (.int .u8 (48 + n % 10))))), (7, .im), (8, .slot (.lf (.im true (.str (dg (n % 10))))))] (a2 (a1 (show (Slot.int (quoI n 10)) = .int (n / 10) by rw [show quoI n 10 = (n / 10) from by unfold quoI; rw [Int.tdiv_eq_ediv_of_nonneg (by omega)]; simp [IntKind.wrap, IntKind.signed, IntKind.bits]; omega])) (a2 (a1 (show (10 : Int) ≠ 0 by decide)) (a2 (cl tx27q (ih (n / 10) (by unfold dm at *; split at hk <;> split <;> omega) ⟨by omega, by omega⟩)) (a2 (a1 (show (Slot.int (remI n 10)) = .int (n % 10) by rw [show remI n 10 = (n % 10) from by unfold remI; exact Int.tmod_eq_emod_of_nonneg (by omega)])) (a2 (a1 (show (10 : Int) ≠ 0 by decide)) (a2 (wI (a := 48 + (n % 10)) (b := 48 + (n % 10)) (by omega) (by omega) (by omega)) (a2 (a1 (show (Slot.im (.int .u8 (IntKind.wrap .u8 (48 + (n % 10)))) : Slot) = .lf (.im true (.int .u8 (48 + n % 10))) by rw [show IntKind.wrap .u8 (48 + (n % 10)) = (48 + n % 10) from by simp [IntKind.wrap, IntKind.signed, IntKind.bits]; omega])) (a2 (a1 (show ([[.int .u8 (48 + n % 10)]] : List (List SV)) = bytesR (dg (n % 10)) by exact dg_rows (by omega) (by omega))) (a2 (a1 (StrFit.mk (a := (decB (n / 10))) (b := (dg (n % 10))) (by exact strb (by simp only [ByteArray.size_append, bl_size, bsz, List.length_cons, List.length_nil, List.length_append, thL_len, dg_size]; omega)))) AllP.nil))))))))) (by kernel_rfl) ?_
        exact xret [.lf (.im true (.str ((decB (n / 10)) ++ (dg (n % 10)))))] rfl (by kernel_rfl) (retS (dec_ge h3))
theorem dec_v : ∀ (n : Int), inR n → CallV Tryd.prog 27 [.lf (.im true (.int .i64 n))] (· = .lf (.im true (.str (decB n)))) := by
  suffices h : ∀ k n, dm n < k → inR n → CallV Tryd.prog 27 [.lf (.im true (.int .i64 n))] (· = .lf (.im true (.str (decB n)))) from fun n hn => h (dm n + 1) n (by omega) hn
  intro k
  induction k with
  | zero => intro n h; omega
  | succ k ih => intro n hk hn; exact dec_step k ih n (by omega) hn
set_option maxRecDepth 100000 in
theorem spec_l4Things_v (l : List ByteArray) (hw : wS l ≤ 2097152) :
    CallV Tryd.prog 28 [.lf (.im true (.sl 1 (l.map rS)))] (· = .lf (.im true (.str (bl (thL l))))) := by
  refine CallX (fn := Tryd.f28) TTokq mixedq Tryd.func28 rfl rfl rfl rfl rfl fun E c => ?_
  have hN := wS_length l
  refine vx c [(0, .lf (.im true (.sl 1 (l.map rS))))] [] AllP.nil (by kernel_rfl) ?_
  refine vx c [(0, .lf (.im true (.sl 1 (l.map rS)))), (6, .lf (.im true (.str (⟨#[]⟩ : ByteArray))))] [] AllP.nil (by kernel_rfl) ?_
  refine xw_seq ?_
  refine vx c [(0, .lf (.im true (.sl 1 (l.map rS)))), (6, .lf (.im true (.str (⟨#[]⟩ : ByteArray)))), (8, .int 0)] [] AllP.nil (by kernel_rfl) ?_
  refine xw_block ?_
  rw [show (⟨#[]⟩ : ByteArray) = bl (thL (l.take 0)) from bl_nil rfl]
  refine xw_loop (fun n L => ∃ (i : Nat), L = [(0, .lf (.im true (.sl 1 (l.map rS)))), (6, .lf (.im true (.str (bl (thL (l.take i)))))), (8, .int ((i : Nat) : Int))] ∧ n = l.length - i ∧ (i ≤ l.length)) _ ⟨0, rfl, rfl, by omega⟩ ?_
  rintro n L ⟨i, rfl, rfl, hP1⟩
  refine xw_seq ?_
  refine vx c [(0, .lf (.im true (.sl 1 (l.map rS)))), (6, .lf (.im true (.str (bl (thL (l.take i)))))), (8, .int ((i : Nat) : Int)), (16, .bool (decide ((((i : Nat) : Int) : Int) < ((l.length : Nat) : Int))))] [(2, .slot (.int ((l.length : Nat) : Int)))] (a2 (ln (l := l) (f := rS)) AllP.nil) (by kernel_rfl) ?_
  refine xw_cond (decide ((((i : Nat) : Int) : Int) < ((l.length : Nat) : Int))) rfl (fun h1 => ?_) (fun h1 => ?_)
  · have h1 := of_dT h1
    have t1 := wS_take l i
    have t2 := wS_at (l := l) (i := i) (by omega)
    refine xw_skip ?_
    refine xw_seq ?_
    refine xw_block ?_
    refine vxe c [(0, .lf (.im true (.sl 1 (l.map rS)))), (6, .lf (.im true (.str (bl (thL (l.take (i + 1))))))), (8, .int ((i : Nat) : Int))] [(4, .row (rS (nth l i))), (6, .slot (.lf (.im true (.str (bl (thL (l.take (i + 1))))))))] (a2 (a1 (StrFit.mk (a := (bl (thL (l.take i)))) (b := (⟨#[32]⟩ : ByteArray)) (by exact strb (by simp only [ByteArray.size_append, bl_size, bsz, List.length_cons, List.length_nil, List.length_append, thL_len, dg_size]; omega)))) (a2 (ix (f := rS) (l := l) (i := i) (nth_at (l := l) (i := i) (by omega))) (a2 (a1 (show (Slot.im (.str (((bl (thL (l.take i))) ++ (⟨#[32]⟩ : ByteArray)) ++ (nth l i))) : Slot) = .lf (.im true (.str (bl (thL (l.take (i + 1)))))) by rw [show ((bl (thL (l.take i))) ++ (⟨#[32]⟩ : ByteArray)) ++ (nth l i) = (bl (thL (l.take (i + 1)))) from by exact things_succ (by omega)])) (a2 (a1 (StrFit.mk (a := ((bl (thL (l.take i))) ++ (⟨#[32]⟩ : ByteArray))) (b := (nth l i)) (by exact strb (by simp only [ByteArray.size_append, bl_size, bsz, List.length_cons, List.length_nil, List.length_append, thL_len, dg_size]; omega)))) AllP.nil)))) (by kernel_rfl) ?_
    exact vxe c [(0, .lf (.im true (.sl 1 (l.map rS)))), (6, .lf (.im true (.str (bl (thL (l.take (i + 1))))))), (8, .int ((i + 1 : Nat) : Int))] [(1, .slot (.int ((i + 1 : Nat) : Int)))] (a2 (wI (a := ((i : Nat) : Int) + 1) (b := ((i + 1 : Nat) : Int)) (by omega) (by omega) (by omega)) AllP.nil) (by kernel_rfl) (⟨_, by omega, (i + 1), rfl, rfl, by omega⟩)
  · have h1 := of_dF h1
    refine xw_exit ?_
    refine vx c [(4, .lf (.im true (.str (bl (thL (l.take i))))))] [] AllP.nil (by kernel_rfl) ?_
    exact xret [.lf (.im true (.str (bl (thL (l.take i)))))] rfl (by kernel_rfl) (retS (by rw [List.take_of_length_le (by omega)]))
set_option maxRecDepth 100000 in
theorem spec_l4Numbers_v (l : List Int) (hN : l.length ≤ 1048576) (hr : ∀ n ∈ l, inR n) :
    CallV Tryd.prog 29 [.lf (.im true (.sl 1 (l.map rI)))] (· = .lf (.im true (.str (bl (thL (l.map decB)))))) := by
  refine CallX (fn := Tryd.f29) TTokq mixedq Tryd.func29 rfl rfl rfl rfl rfl fun E c => ?_
  refine vx c [(0, .lf (.im true (.sl 1 (l.map rI))))] [] AllP.nil (by kernel_rfl) ?_
  refine vx c [(0, .lf (.im true (.sl 1 (l.map rI)))), (6, .lf (.im true (.str (⟨#[]⟩ : ByteArray))))] [] AllP.nil (by kernel_rfl) ?_
  refine xw_seq ?_
  refine vx c [(0, .lf (.im true (.sl 1 (l.map rI)))), (6, .lf (.im true (.str (⟨#[]⟩ : ByteArray)))), (8, .int 0)] [] AllP.nil (by kernel_rfl) ?_
  refine xw_block ?_
  rw [show (⟨#[]⟩ : ByteArray) = bl (thL ((l.take 0).map decB)) from bl_nil rfl]
  refine xw_loop (fun n L => ∃ (i : Nat), L = [(0, .lf (.im true (.sl 1 (l.map rI)))), (6, .lf (.im true (.str (bl (thL ((l.take i).map decB)))))), (8, .int ((i : Nat) : Int))] ∧ n = l.length - i ∧ (i ≤ l.length)) _ ⟨0, rfl, rfl, by omega⟩ ?_
  rintro n L ⟨i, rfl, rfl, hP1⟩
  refine xw_seq ?_
  refine vx c [(0, .lf (.im true (.sl 1 (l.map rI)))), (6, .lf (.im true (.str (bl (thL ((l.take i).map decB)))))), (8, .int ((i : Nat) : Int)), (16, .bool (decide ((((i : Nat) : Int) : Int) < ((l.length : Nat) : Int))))] [(2, .slot (.int ((l.length : Nat) : Int)))] (a2 (ln (l := l) (f := rI)) AllP.nil) (by kernel_rfl) ?_
  refine xw_cond (decide ((((i : Nat) : Int) : Int) < ((l.length : Nat) : Int))) rfl (fun h1 => ?_) (fun h1 => ?_)
  · have h1 := of_dT h1
    have hx : inR (nth l i) := hr _ (nth_mem (by omega))
    have s1 := decB_size hx
    have t1 := thL_decTake hr i
    rw [thL_len] at t1
    refine xw_skip ?_
    refine xw_seq ?_
    refine xw_block ?_
    refine vxe c [(0, .lf (.im true (.sl 1 (l.map rI)))), (6, .lf (.im true (.str (bl (thL ((l.take (i + 1)).map decB)))))), (8, .int ((i : Nat) : Int))] [(4, .row (rI (nth l i))), (6, .ret (.lf (.im true (.str (decB (nth l i)))))), (7, .slot (.lf (.im true (.str (bl (thL ((l.take (i + 1)).map decB)))))))] (a2 (a1 (StrFit.mk (a := (bl (thL ((l.take i).map decB)))) (b := (⟨#[32]⟩ : ByteArray)) (by exact strb (by simp only [ByteArray.size_append, bl_size, bsz, List.length_cons, List.length_nil, List.length_append, thL_len, dg_size]; omega)))) (a2 (ix (f := rI) (l := l) (i := i) (nth_at (l := l) (i := i) (by omega))) (a2 (cl tx27q (dec_v (nth l i) (by assumption))) (a2 (a1 (show (Slot.im (.str (((bl (thL ((l.take i).map decB))) ++ (⟨#[32]⟩ : ByteArray)) ++ (decB (nth l i)))) : Slot) = .lf (.im true (.str (bl (thL ((l.take (i + 1)).map decB))))) by rw [show ((bl (thL ((l.take i).map decB))) ++ (⟨#[32]⟩ : ByteArray)) ++ (decB (nth l i)) = (bl (thL ((l.take (i + 1)).map decB))) from by exact numbers_succ (by omega)])) (a2 (a1 (StrFit.mk (a := ((bl (thL ((l.take i).map decB))) ++ (⟨#[32]⟩ : ByteArray))) (b := (decB (nth l i))) (by exact strb (by simp only [ByteArray.size_append, bl_size, bsz, List.length_cons, List.length_nil, List.length_append, thL_len, dg_size]; omega)))) AllP.nil))))) (by kernel_rfl) ?_
    exact vxe c [(0, .lf (.im true (.sl 1 (l.map rI)))), (6, .lf (.im true (.str (bl (thL ((l.take (i + 1)).map decB)))))), (8, .int ((i + 1 : Nat) : Int))] [(1, .slot (.int ((i + 1 : Nat) : Int)))] (a2 (wI (a := ((i : Nat) : Int) + 1) (b := ((i + 1 : Nat) : Int)) (by omega) (by omega) (by omega)) AllP.nil) (by kernel_rfl) (⟨_, by omega, (i + 1), rfl, rfl, by omega⟩)
  · have h1 := of_dF h1
    refine xw_exit ?_
    refine vx c [(4, .lf (.im true (.str (bl (thL ((l.take i).map decB))))))] [] AllP.nil (by kernel_rfl) ?_
    exact xret [.lf (.im true (.str (bl (thL ((l.take i).map decB)))))] rfl (by kernel_rfl) (retS (by rw [List.take_of_length_le (by omega)]))
set_option maxRecDepth 100000 in
theorem impl_numbers_v (l : List Int) (hN : l.length ≤ 1048576) (hr : ∀ n ∈ l, inR n) :
    CallV Tryd.prog 36 [.lf (.im true (.sl 1 (l.map rI)))] (· = .lf (.im true (.sl 1 ((l.map decB).map rS)))) := by
  refine CallX (fn := Tryd.f36) TTokq mixedq Tryd.func36 rfl rfl rfl rfl rfl fun E c => ?_
  refine vx c [(0, .lf (.im true (.sl 1 (l.map rI))))] [] AllP.nil (by kernel_rfl) ?_
  refine vx c [(0, .lf (.im true (.sl 1 (l.map rI)))), (6, .lf (.u 6 0 9 1 []))] [] AllP.nil (by kernel_rfl) ?_
  refine xw_seq ?_
  refine vx c [(6, .lf (.u 6 0 9 1 [])), (14, .lf (.im true (.sl 1 (l.map rI)))), (16, .int ((l.length : Nat) : Int)), (18, .int 0)] [(1, .slot (.int ((l.length : Nat) : Int)))] (a2 (ln (l := l) (f := rI)) AllP.nil) (by kernel_rfl) ?_
  refine xw_block ?_
  refine xw_loop (fun n L => ∃ (i : Nat), L = [(6, .lf (.u 6 0 9 1 (((l.map decB).take i).map rS))), (14, .lf (.im true (.sl 1 (l.map rI)))), (16, .int ((l.length : Nat) : Int)), (18, .int ((i : Nat) : Int))] ∧ n = l.length - i ∧ (i ≤ l.length)) _ ⟨0, rfl, rfl, by omega⟩ ?_
  rintro n L ⟨i, rfl, rfl, hP1⟩
  refine vx c [(6, .lf (.u 6 0 9 1 (((l.map decB).take i).map rS))), (14, .lf (.im true (.sl 1 (l.map rI)))), (16, .int ((l.length : Nat) : Int)), (18, .int ((i : Nat) : Int)), (20, .bool (decide ((((i : Nat) : Int) : Int) < ((l.length : Nat) : Int))))] [] AllP.nil (by kernel_rfl) ?_
  refine xw_seq ?_
  refine xw_cond (decide ((((i : Nat) : Int) : Int) < ((l.length : Nat) : Int))) rfl (fun h1 => ?_) (fun h1 => ?_)
  · have h1 := of_dT h1
    have hx : inR (nth l i) := hr _ (nth_mem (by omega))
    refine xw_skip ?_
    refine xw_seq ?_
    refine xw_block ?_
    refine vx c [(6, .lf (.u 6 0 9 1 (((l.map decB).take i).map rS))), (10, .int (nth l i)), (14, .lf (.im true (.sl 1 (l.map rI)))), (16, .int ((l.length : Nat) : Int)), (18, .int ((i : Nat) : Int))] [(0, .row (rI (nth l i)))] (a2 (ix (f := rI) (l := l) (i := i) (nth_at (l := l) (i := i) (by omega))) AllP.nil) (by kernel_rfl) ?_
    refine vxe c [(6, .lf (.u 6 0 9 1 (((l.map decB).take (i + 1)).map rS))), (14, .lf (.im true (.sl 1 (l.map rI)))), (16, .int ((l.length : Nat) : Int)), (18, .int ((i : Nat) : Int))] [(2, .ret (.lf (.im true (.str (decB (nth l i)))))), (3, .im), (4, .slot (.lf (.u 6 0 9 1 (((l.map decB).take (i + 1)).map rS))))] (a2 (cl tx35q (itoa_v (nth l i) (inR_lo (by assumption)) (inR_hi (by assumption)))) (a2 (a1 (show ((((l.map decB).take i).map rS) ++ [[.str (decB (nth l i))]] : List (List SV)) = ((l.map decB).take (i + 1)).map rS by exact take_app (f := rS) (l := l.map decB) (map_nth decB (by omega)))) (a2 (hl ((((l.map decB).take i).map rS).length)) (a2 (ap (a := (((l.map decB).take i).map rS : List (List SV)).length + ([[.str (decB (nth l i))]] : List (List SV)).length) (b := 16) (by simp; omega) (by unfold maxLen; simp; omega)) AllP.nil)))) (by kernel_rfl) ?_
    exact vxe c [(6, .lf (.u 6 0 9 1 (((l.map decB).take (i + 1)).map rS))), (14, .lf (.im true (.sl 1 (l.map rI)))), (16, .int ((l.length : Nat) : Int)), (18, .int ((i + 1 : Nat) : Int))] [(0, .slot (.int ((i + 1 : Nat) : Int)))] (a2 (wI (a := ((i : Nat) : Int) + 1) (b := ((i + 1 : Nat) : Int)) (by omega) (by omega) (by omega)) AllP.nil) (by kernel_rfl) (⟨_, by omega, (i + 1), rfl, rfl, by omega⟩)
  · have h1 := of_dF h1
    refine xw_exit ?_
    refine xw_fr 3 [(6, .lf (.im true (.sl 1 (((l.map decB).take i).map rS)))), (14, .lf (.im true (.sl 1 (l.map rI)))), (16, .int ((l.length : Nat) : Int)), (18, .int ((i : Nat) : Int)), (20, .bool (decide ((((i : Nat) : Int) : Int) < ((l.length : Nat) : Int))))] (by kernel_rfl) ?_
    refine vx c [(4, .lf (.im true (.sl 1 (((l.map decB).take i).map rS))))] [] AllP.nil (by kernel_rfl) ?_
    exact xret [.lf (.im true (.sl 1 (((l.map decB).take i).map rS)))] rfl (by kernel_rfl) (retL (by rw [List.take_of_length_le (by simp; omega)]))
set_option maxRecDepth 100000 in
theorem many_v (f : Ins) :
    CallV Tryd.prog 63 [.agg [.im true (.str f.op), .im true (.int .i64 f.a), .im true (.int .i64 f.b)]] (· = .int (many f)) := by
  refine CallX (fn := Tryd.f63) TTokq mixedq Tryd.func63 rfl rfl rfl rfl rfl fun E c => ?_
  refine vx c [(2, .lf (.ptr 1 0)), (3, .cell 1 [.im true (.str f.op), .im true (.int .i64 f.a), .im true (.int .i64 f.b)])] [] AllP.nil (by kernel_rfl) ?_
  refine xw_seq ?_
  refine xw_block ?_
  refine vx c [(2, .lf (.ptr 1 0)), (3, .cell 1 [.im true (.str f.op), .im true (.int .i64 f.a), .im true (.int .i64 f.b)]), (6, .bool (decide ((f.a : Int) = 0)))] [] AllP.nil (by kernel_rfl) ?_
  refine xw_cond (decide ((f.a : Int) = 0)) rfl (fun h1 => ?_) (fun h1 => ?_)
  · have h1 := of_dT h1
    refine vx c [(4, .int 0)] [] AllP.nil (by kernel_rfl) ?_
    exact xret [.lf (.im true (.int .i64 0))] rfl (by kernel_rfl) (retI (by unfold many; rw [if_pos h1]))
  · have h1 := of_dF h1
    refine vx c [(14, .bool (decide ((f.b : Int) = 0)))] [] AllP.nil (by kernel_rfl) ?_
    refine xw_cond (decide ((f.b : Int) = 0)) rfl (fun h2 => ?_) (fun h2 => ?_)
    · have h2 := of_dT h2
      refine vx c [(4, .int 1)] [] AllP.nil (by kernel_rfl) ?_
      exact xret [.lf (.im true (.int .i64 1))] rfl (by kernel_rfl) (retI (by unfold many; rw [if_neg h1, if_pos h2]))
    · have h2 := of_dF h2
      refine xw_skip ?_
      refine vx c [(4, .int 2)] [] AllP.nil (by kernel_rfl) ?_
      exact xret [.lf (.im true (.int .i64 2))] rfl (by kernel_rfl) (retI (by unfold many; rw [if_neg h1, if_neg h2]))
set_option maxRecDepth 100000 in
theorem spec_l4Ins_v (a : Ins) (hr : a.rng) (hw : a.op.size ≤ 2097152) :
    CallV Tryd.prog 30 [.agg [.im true (.str a.op), .im true (.int .i64 a.a), .im true (.int .i64 a.b)]] (· = .lf (.im true (.str (bl (insL a))))) := by
  refine CallX (fn := Tryd.f30) TTokq mixedq Tryd.func30 rfl rfl rfl rfl rfl fun E c => ?_
  have ra : inR a.a := hr.1
  have rb : inR a.b := hr.2
  have sa := decB_size ra
  have sb := decB_size rb
  refine vx c [(2, .lf (.ptr 1 0)), (3, .cell 1 [.im true (.str a.op), .im true (.int .i64 a.a), .im true (.int .i64 a.b)])] [] AllP.nil (by kernel_rfl) ?_
  refine vx c [(2, .lf (.ptr 1 0)), (3, .cell 1 [.im true (.str a.op), .im true (.int .i64 a.a), .im true (.int .i64 a.b)]), (6, .lf (.ptr 3 0)), (7, .cell 3 [.im true (.str ((formV a.op).op)), .im true (.int .i64 ((formV a.op).a)), .im true (.int .i64 ((formV a.op).b))])] [(2, .ret (.tup [.agg [.im true (.str ((formV a.op).op)), .im true (.int .i64 ((formV a.op).a)), .im true (.int .i64 ((formV a.op).b))], .lf (.im true (.bool (formB a.op)))]))] (a2 (cl tx56q (spec_l3Needs_v a.op)) AllP.nil) (by kernel_rfl) ?_
  refine vx c [(2, .lf (.ptr 1 0)), (3, .cell 1 [.im true (.str a.op), .im true (.int .i64 a.a), .im true (.int .i64 a.b)]), (6, .lf (.ptr 3 0)), (7, .cell 3 [.im true (.str ((formV a.op).op)), .im true (.int .i64 ((formV a.op).a)), .im true (.int .i64 ((formV a.op).b))]), (10, .lf (.im true (.str a.op)))] [] AllP.nil (by kernel_rfl) ?_
  refine xw_seq ?_
  refine vx c [(2, .lf (.ptr 1 0)), (3, .cell 1 [.im true (.str a.op), .im true (.int .i64 a.a), .im true (.int .i64 a.b)]), (6, .lf (.ptr 3 0)), (7, .cell 3 [.im true (.str ((formV a.op).op)), .im true (.int .i64 ((formV a.op).a)), .im true (.int .i64 ((formV a.op).b))]), (10, .lf (.im true (.str a.op))), (32, .bool (decide (((formV a.op).a : Int) > 0)))] [] AllP.nil (by kernel_rfl) ?_
  refine xw_cond (decide (((formV a.op).a : Int) > 0)) rfl (fun h1 => ?_) (fun h1 => ?_)
  · have h1 := of_dT h1
    refine vxe c [(2, .lf (.ptr 1 0)), (3, .cell 1 [.im true (.str a.op), .im true (.int .i64 a.a), .im true (.int .i64 a.b)]), (6, .lf (.ptr 3 0)), (7, .cell 3 [.im true (.str ((formV a.op).op)), .im true (.int .i64 ((formV a.op).a)), .im true (.int .i64 ((formV a.op).b))]), (10, .lf (.im true (.str ((a.op ++ (⟨#[32]⟩ : ByteArray)) ++ (decB a.a)))))] [(4, .ret (.lf (.im true (.str (decB a.a)))))] (a2 (a1 (StrFit.mk (a := a.op) (b := (⟨#[32]⟩ : ByteArray)) (by exact strb (by simp only [ByteArray.size_append, bl_size, bsz, List.length_cons, List.length_nil, List.length_append, thL_len, dg_size]; omega)))) (a2 (cl tx27q (dec_v a.a (by assumption))) (a2 (a1 (StrFit.mk (a := (a.op ++ (⟨#[32]⟩ : ByteArray))) (b := (decB a.a)) (by exact strb (by simp only [ByteArray.size_append, bl_size, bsz, List.length_cons, List.length_nil, List.length_append, thL_len, dg_size]; omega)))) AllP.nil))) (by kernel_rfl) ?_
    refine xw_seq ?_
    refine vx c [(2, .lf (.ptr 1 0)), (3, .cell 1 [.im true (.str a.op), .im true (.int .i64 a.a), .im true (.int .i64 a.b)]), (10, .lf (.im true (.str ((a.op ++ (⟨#[32]⟩ : ByteArray)) ++ (decB a.a))))), (50, .bool (decide (((formV a.op).b : Int) > 0)))] [] AllP.nil (by kernel_rfl) ?_
    refine xw_cond (decide (((formV a.op).b : Int) > 0)) rfl (fun h2 => ?_) (fun h2 => ?_)
    · have h2 := of_dT h2
      refine vxe c [(10, .lf (.im true (.str ((((a.op ++ (⟨#[32]⟩ : ByteArray)) ++ (decB a.a)) ++ (⟨#[32]⟩ : ByteArray)) ++ (decB a.b)))))] [(4, .ret (.lf (.im true (.str (decB a.b)))))] (a2 (a1 (StrFit.mk (a := ((a.op ++ (⟨#[32]⟩ : ByteArray)) ++ (decB a.a))) (b := (⟨#[32]⟩ : ByteArray)) (by exact strb (by simp only [ByteArray.size_append, bl_size, bsz, List.length_cons, List.length_nil, List.length_append, thL_len, dg_size]; omega)))) (a2 (cl tx27q (dec_v a.b (by assumption))) (a2 (a1 (StrFit.mk (a := (((a.op ++ (⟨#[32]⟩ : ByteArray)) ++ (decB a.a)) ++ (⟨#[32]⟩ : ByteArray))) (b := (decB a.b)) (by exact strb (by simp only [ByteArray.size_append, bl_size, bsz, List.length_cons, List.length_nil, List.length_append, thL_len, dg_size]; omega)))) AllP.nil))) (by kernel_rfl) ?_
      refine vx c [(4, .lf (.im true (.str ((((a.op ++ (⟨#[32]⟩ : ByteArray)) ++ (decB a.a)) ++ (⟨#[32]⟩ : ByteArray)) ++ (decB a.b)))))] [] AllP.nil (by kernel_rfl) ?_
      exact xret [.lf (.im true (.str ((((a.op ++ (⟨#[32]⟩ : ByteArray)) ++ (decB a.a)) ++ (⟨#[32]⟩ : ByteArray)) ++ (decB a.b))))] rfl (by kernel_rfl) (retS (bb (by unfold insL; rw [if_pos h1, if_pos h2]; simp only [dapp, bl_data, bdt, decB_data, joinB_cons, thL_app, thL_cons, thL_nil, List.append_assoc, List.cons_append, List.nil_append, List.append_nil, sp1_data, nl1_data])))
    · have h2 := of_dF h2
      refine xw_skip ?_
      refine vx c [(4, .lf (.im true (.str ((a.op ++ (⟨#[32]⟩ : ByteArray)) ++ (decB a.a)))))] [] AllP.nil (by kernel_rfl) ?_
      exact xret [.lf (.im true (.str ((a.op ++ (⟨#[32]⟩ : ByteArray)) ++ (decB a.a))))] rfl (by kernel_rfl) (retS (bb (by unfold insL; rw [if_pos h1, if_neg h2]; simp only [dapp, bl_data, bdt, decB_data, joinB_cons, thL_app, thL_cons, thL_nil, List.append_assoc, List.cons_append, List.nil_append, List.append_nil, sp1_data, nl1_data])))
  · have h1 := of_dF h1
    refine xw_skip ?_
    refine xw_seq ?_
    refine vx c [(2, .lf (.ptr 1 0)), (3, .cell 1 [.im true (.str a.op), .im true (.int .i64 a.a), .im true (.int .i64 a.b)]), (10, .lf (.im true (.str a.op))), (50, .bool (decide (((formV a.op).b : Int) > 0)))] [] AllP.nil (by kernel_rfl) ?_
    refine xw_cond (decide (((formV a.op).b : Int) > 0)) rfl (fun h3 => ?_) (fun h3 => ?_)
    · have h3 := of_dT h3
      refine vxe c [(10, .lf (.im true (.str ((a.op ++ (⟨#[32]⟩ : ByteArray)) ++ (decB a.b)))))] [(4, .ret (.lf (.im true (.str (decB a.b)))))] (a2 (a1 (StrFit.mk (a := a.op) (b := (⟨#[32]⟩ : ByteArray)) (by exact strb (by simp only [ByteArray.size_append, bl_size, bsz, List.length_cons, List.length_nil, List.length_append, thL_len, dg_size]; omega)))) (a2 (cl tx27q (dec_v a.b (by assumption))) (a2 (a1 (StrFit.mk (a := (a.op ++ (⟨#[32]⟩ : ByteArray))) (b := (decB a.b)) (by exact strb (by simp only [ByteArray.size_append, bl_size, bsz, List.length_cons, List.length_nil, List.length_append, thL_len, dg_size]; omega)))) AllP.nil))) (by kernel_rfl) ?_
      refine vx c [(4, .lf (.im true (.str ((a.op ++ (⟨#[32]⟩ : ByteArray)) ++ (decB a.b)))))] [] AllP.nil (by kernel_rfl) ?_
      exact xret [.lf (.im true (.str ((a.op ++ (⟨#[32]⟩ : ByteArray)) ++ (decB a.b))))] rfl (by kernel_rfl) (retS (bb (by unfold insL; rw [if_neg h1, if_pos h3]; simp only [dapp, bl_data, bdt, decB_data, joinB_cons, thL_app, thL_cons, thL_nil, List.append_assoc, List.cons_append, List.nil_append, List.append_nil, sp1_data, nl1_data])))
    · have h3 := of_dF h3
      refine xw_skip ?_
      refine vx c [(4, .lf (.im true (.str a.op)))] [] AllP.nil (by kernel_rfl) ?_
      exact xret [.lf (.im true (.str a.op))] rfl (by kernel_rfl) (retS (bb (by unfold insL; rw [if_neg h1, if_neg h3]; simp only [dapp, bl_data, bdt, decB_data, joinB_cons, thL_app, thL_cons, thL_nil, List.append_assoc, List.cons_append, List.nil_append, List.append_nil, sp1_data, nl1_data])))
set_option maxRecDepth 100000 in
theorem impl_insText_v (a : Ins) (hr : a.rng) (hw : a.op.size ≤ 2097152) :
    CallV Tryd.prog 37 [.agg [.im true (.str a.op), .im true (.int .i64 a.a), .im true (.int .i64 a.b)]] (· = .lf (.im true (.str (bl (insL a))))) := by
  refine CallX (fn := Tryd.f37) TTokq mixedq Tryd.func37 rfl rfl rfl rfl rfl fun E c => ?_
  have ra : inR a.a := hr.1
  have rb : inR a.b := hr.2
  have sa := decB_size ra
  have sb := decB_size rb
  refine vx c [(2, .lf (.ptr 1 0)), (3, .cell 1 [.im true (.str a.op), .im true (.int .i64 a.a), .im true (.int .i64 a.b)])] [] AllP.nil (by kernel_rfl) ?_
  refine vx c [(2, .lf (.ptr 1 0)), (3, .cell 1 [.im true (.str a.op), .im true (.int .i64 a.a), .im true (.int .i64 a.b)]), (6, .lf (.ptr 3 0)), (7, .cell 3 [.im true (.str ((formV a.op).op)), .im true (.int .i64 ((formV a.op).a)), .im true (.int .i64 ((formV a.op).b))])] [(2, .ret (.tup [.agg [.im true (.str ((formV a.op).op)), .im true (.int .i64 ((formV a.op).a)), .im true (.int .i64 ((formV a.op).b))], .lf (.im true (.bool (formB a.op)))]))] (a2 (cl tx62q (impl_formOf_v a.op)) AllP.nil) (by kernel_rfl) ?_
  refine vx c [(2, .lf (.ptr 1 0)), (3, .cell 1 [.im true (.str a.op), .im true (.int .i64 a.a), .im true (.int .i64 a.b)]), (6, .lf (.ptr 3 0)), (7, .cell 3 [.im true (.str ((formV a.op).op)), .im true (.int .i64 ((formV a.op).a)), .im true (.int .i64 ((formV a.op).b))]), (10, .lf (.im true (.str a.op)))] [] AllP.nil (by kernel_rfl) ?_
  refine xw_seq ?_
  refine vx c [(2, .lf (.ptr 1 0)), (3, .cell 1 [.im true (.str a.op), .im true (.int .i64 a.a), .im true (.int .i64 a.b)]), (6, .lf (.ptr 3 0)), (7, .cell 3 [.im true (.str ((formV a.op).op)), .im true (.int .i64 ((formV a.op).a)), .im true (.int .i64 ((formV a.op).b))]), (10, .lf (.im true (.str a.op))), (32, .bool (decide ((many (formV a.op) : Int) > 0)))] [(1, .ret (.int (many (formV a.op))))] (a2 (cl tx63q (many_v (formV a.op))) AllP.nil) (by kernel_rfl) ?_
  refine xw_cond (decide ((many (formV a.op) : Int) > 0)) rfl (fun h1 => ?_) (fun h1 => ?_)
  · have h1 := of_dT h1
    refine vxe c [(2, .lf (.ptr 1 0)), (3, .cell 1 [.im true (.str a.op), .im true (.int .i64 a.a), .im true (.int .i64 a.b)]), (6, .lf (.ptr 3 0)), (7, .cell 3 [.im true (.str ((formV a.op).op)), .im true (.int .i64 ((formV a.op).a)), .im true (.int .i64 ((formV a.op).b))]), (10, .lf (.im true (.str (a.op ++ ((⟨#[32]⟩ : ByteArray) ++ (decB a.a))))))] [(3, .ret (.lf (.im true (.str (decB a.a)))))] (a2 (cl tx35q (itoa_v a.a (inR_lo (by assumption)) (inR_hi (by assumption)))) (a2 (a1 (StrFit.mk (a := (⟨#[32]⟩ : ByteArray)) (b := (decB a.a)) (by exact strb (by simp only [ByteArray.size_append, bl_size, bsz, List.length_cons, List.length_nil, List.length_append, thL_len, dg_size]; omega)))) (a2 (a1 (StrFit.mk (a := a.op) (b := ((⟨#[32]⟩ : ByteArray) ++ (decB a.a))) (by exact strb (by simp only [ByteArray.size_append, bl_size, bsz, List.length_cons, List.length_nil, List.length_append, thL_len, dg_size]; omega)))) AllP.nil))) (by kernel_rfl) ?_
    refine xw_seq ?_
    refine vx c [(2, .lf (.ptr 1 0)), (3, .cell 1 [.im true (.str a.op), .im true (.int .i64 a.a), .im true (.int .i64 a.b)]), (10, .lf (.im true (.str (a.op ++ ((⟨#[32]⟩ : ByteArray) ++ (decB a.a)))))), (50, .bool (decide ((many (formV a.op) : Int) > 1)))] [(1, .ret (.int (many (formV a.op))))] (a2 (cl tx63q (many_v (formV a.op))) AllP.nil) (by kernel_rfl) ?_
    refine xw_cond (decide ((many (formV a.op) : Int) > 1)) rfl (fun h2 => ?_) (fun h2 => ?_)
    · have h2 := of_dT h2
      refine vxe c [(10, .lf (.im true (.str ((a.op ++ ((⟨#[32]⟩ : ByteArray) ++ (decB a.a))) ++ ((⟨#[32]⟩ : ByteArray) ++ (decB a.b))))))] [(3, .ret (.lf (.im true (.str (decB a.b)))))] (a2 (cl tx35q (itoa_v a.b (inR_lo (by assumption)) (inR_hi (by assumption)))) (a2 (a1 (StrFit.mk (a := (⟨#[32]⟩ : ByteArray)) (b := (decB a.b)) (by exact strb (by simp only [ByteArray.size_append, bl_size, bsz, List.length_cons, List.length_nil, List.length_append, thL_len, dg_size]; omega)))) (a2 (a1 (StrFit.mk (a := (a.op ++ ((⟨#[32]⟩ : ByteArray) ++ (decB a.a)))) (b := ((⟨#[32]⟩ : ByteArray) ++ (decB a.b))) (by exact strb (by simp only [ByteArray.size_append, bl_size, bsz, List.length_cons, List.length_nil, List.length_append, thL_len, dg_size]; omega)))) AllP.nil))) (by kernel_rfl) ?_
      refine vx c [(4, .lf (.im true (.str ((a.op ++ ((⟨#[32]⟩ : ByteArray) ++ (decB a.a))) ++ ((⟨#[32]⟩ : ByteArray) ++ (decB a.b))))))] [] AllP.nil (by kernel_rfl) ?_
      exact xret [.lf (.im true (.str ((a.op ++ ((⟨#[32]⟩ : ByteArray) ++ (decB a.a))) ++ ((⟨#[32]⟩ : ByteArray) ++ (decB a.b)))))] rfl (by kernel_rfl) (retS (bb (by unfold insL; rw [if_pos ((many_a a.op).1 h1), if_pos ((many_b a.op).1 h2)]; simp only [dapp, bl_data, bdt, decB_data, joinB_cons, thL_app, thL_cons, thL_nil, List.append_assoc, List.cons_append, List.nil_append, List.append_nil, sp1_data, nl1_data])))
    · have h2 := of_dF h2
      refine xw_skip ?_
      refine vx c [(4, .lf (.im true (.str (a.op ++ ((⟨#[32]⟩ : ByteArray) ++ (decB a.a))))))] [] AllP.nil (by kernel_rfl) ?_
      exact xret [.lf (.im true (.str (a.op ++ ((⟨#[32]⟩ : ByteArray) ++ (decB a.a)))))] rfl (by kernel_rfl) (retS (bb (by unfold insL; rw [if_pos ((many_a a.op).1 h1), if_neg (fun q => h2 ((many_b a.op).2 q))]; simp only [dapp, bl_data, bdt, decB_data, joinB_cons, thL_app, thL_cons, thL_nil, List.append_assoc, List.cons_append, List.nil_append, List.append_nil, sp1_data, nl1_data])))
  · have h1 := of_dF h1
    refine xw_skip ?_
    refine xw_seq ?_
    refine vx c [(2, .lf (.ptr 1 0)), (3, .cell 1 [.im true (.str a.op), .im true (.int .i64 a.a), .im true (.int .i64 a.b)]), (10, .lf (.im true (.str a.op))), (50, .bool (decide ((many (formV a.op) : Int) > 1)))] [(1, .ret (.int (many (formV a.op))))] (a2 (cl tx63q (many_v (formV a.op))) AllP.nil) (by kernel_rfl) ?_
    refine xw_cond (decide ((many (formV a.op) : Int) > 1)) rfl (fun h3 => ?_) (fun h3 => ?_)
    · have h3 := of_dT h3
      refine vxe c [(10, .lf (.im true (.str (a.op ++ ((⟨#[32]⟩ : ByteArray) ++ (decB a.b))))))] [(3, .ret (.lf (.im true (.str (decB a.b)))))] (a2 (cl tx35q (itoa_v a.b (inR_lo (by assumption)) (inR_hi (by assumption)))) (a2 (a1 (StrFit.mk (a := (⟨#[32]⟩ : ByteArray)) (b := (decB a.b)) (by exact strb (by simp only [ByteArray.size_append, bl_size, bsz, List.length_cons, List.length_nil, List.length_append, thL_len, dg_size]; omega)))) (a2 (a1 (StrFit.mk (a := a.op) (b := ((⟨#[32]⟩ : ByteArray) ++ (decB a.b))) (by exact strb (by simp only [ByteArray.size_append, bl_size, bsz, List.length_cons, List.length_nil, List.length_append, thL_len, dg_size]; omega)))) AllP.nil))) (by kernel_rfl) ?_
      refine vx c [(4, .lf (.im true (.str (a.op ++ ((⟨#[32]⟩ : ByteArray) ++ (decB a.b))))))] [] AllP.nil (by kernel_rfl) ?_
      exact xret [.lf (.im true (.str (a.op ++ ((⟨#[32]⟩ : ByteArray) ++ (decB a.b)))))] rfl (by kernel_rfl) (retS (bb (by unfold insL; rw [if_neg (fun q => h1 ((many_a a.op).2 q)), if_pos ((many_b a.op).1 h3)]; simp only [dapp, bl_data, bdt, decB_data, joinB_cons, thL_app, thL_cons, thL_nil, List.append_assoc, List.cons_append, List.nil_append, List.append_nil, sp1_data, nl1_data])))
    · have h3 := of_dF h3
      refine xw_skip ?_
      refine vx c [(4, .lf (.im true (.str a.op)))] [] AllP.nil (by kernel_rfl) ?_
      exact xret [.lf (.im true (.str a.op))] rfl (by kernel_rfl) (retS (bb (by unfold insL; rw [if_neg (fun q => h1 ((many_a a.op).2 q)), if_neg (fun q => h3 ((many_b a.op).2 q))]; simp only [dapp, bl_data, bdt, decB_data, joinB_cons, thL_app, thL_cons, thL_nil, List.append_assoc, List.cons_append, List.nil_append, List.append_nil, sp1_data, nl1_data])))
end Go.Proofs.YtahciphhopiipaaDoor
