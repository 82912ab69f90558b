/- Functions that mark data: their common walk. -/
import Derived.Test.YtahciphhopiipaaGreatDoorW0
set_option linter.unusedVariables false
set_option linter.unusedSimpArgs false
namespace Go.Proofs.YtahciphhopiipaaGreatDoor.V
open Go Go.RowKit

def Base (NT : Nat) (a : Act) (sl : Value) (k : Int) (i : Nat) : Prop := Knows NT a [(0, sl), (1, .int .i64 k), (5, .int .i64 ((i : Nat) : Int))]
/-- Places that ascend behind one, all in bounds. -/
def freshB (NT : Nat) : Nat → List Nat → Bool
  | _, [] => true
  | p, x :: xs => Nat.blt p x && (Nat.blt x NT && freshB NT x xs)
theorem blt_of {a b : Nat} (h : Nat.blt a b = true) : a < b := Nat.le_of_ble_eq_true h

/-- 'k++'. -/
theorem rg_inc {P : Program} {NT id x y : Nat} {t t' : TypeId} {ops : Array Oper} {o0 o1 o2 : Oper} {sl : Value} {k : Int} {i : Nat} {a : Act} {w : World} {Q : Exit → Act → World → Prop} (hops : ops = #[o0, o1, o2])
    (h0 : Is o0 (.move (.tmp 1)) (some x)) (h1 : Is o1 (.binOp .add t (.tmp x) (.const (.int .i64 1)) t') (some y)) (h2 : Is o2 (.assign (.tmp y)) (some 1)) (hf : freshB NT 5 [x, y] = true) (h5 : 1 < NT)
    (hk : -9223372036854775808 ≤ k + 1) (hk2 : k + 1 ≤ 9223372036854775807) (A : Base NT a sl k i) (next : ∀ a', Base NT a' sl (k + 1) i → Q .normal a' w) : (Code.region id ops false).wp P Q a w := by
  subst hops
  simp only [freshB, Bool.and_eq_true] at hf
  obtain ⟨c1, b1, c2, b2, -⟩ := hf
  replace c1 := blt_of c1; replace b1 := blt_of b1
  replace c2 := blt_of c2; replace b2 := blt_of b2
  refine wp_region ?_
  show wpOps P _ _ [0, 1, 2] a w
  refine k_copy (v := .int .i64 k) rfl h0 (.inl rfl) (A.get (by simp)) ?_
  have A1 := A.put x (.int .i64 k) b1 (by simp; omega)
  refine k_bin (op := .add) (k := .i64) (m := k) (n := 1) (r := .int .i64 (k + 1)) (v := .int .i64 (k + 1)) rfl h1 (A1.get (by simp)) rfl (by simp only [intOp]; rw [wrap_in (rfl : k + 1 = k + 1) hk hk2]) rfl ?_
  have A2 := A1.put y (.int .i64 (k + 1)) b2 (by simp; omega)
  refine k_copy (v := .int .i64 (k + 1)) rfl h2 (.inr rfl) (A2.get (by simp)) ?_
  refine k_end (next _ ?_)
  exact A2.set 1 _ _ h5 (by simp)

/-- A call on a field that is a slice. -/
theorem rg_call {P : Program} {NT id x0 x1 x2 x3 x4 x5 x6 : Nat} {T e sz TF j off Tl G : Nat} {ats : Array TypeId} {ops : Array Oper} {o0 o1 o2 o3 o4 o5 o6 o7 : Oper} {b off0 n c : Nat} {k k' : Int} {i : Nat} {a : Act} {w : World} {Q : Exit → Act → World → Prop} {y : Value} {R : World → Prop}
    (hops : ops = #[o0, o1, o2, o3, o4, o5, o6, o7])
    (h0 : Is o0 (.move (.tmp 0)) (some x0)) (h1 : Is o1 (.move (.tmp 5)) (some x1)) (h2 : Is o2 (.indexAddr T (.tmp x0) (.tmp x1)) (some x2)) (h3 : Is o3 (.fieldAddr TF (.tmp x2) j) (some x3)) (h4 : Is o4 (.load Tl (.tmp x3)) (some x4)) (h5 : Is o5 (.move (.tmp 1)) (some x5))
    (h6 : Is o6 (.call { callee := .value (.func G), args := #[.tmp x4, .tmp x5], argTypes := ats }) (some x6)) (h7 : Is o7 (.assign (.tmp x6)) (some 1))
    (hf : freshB NT 5 [x0, x1, x2, x3, x4, x5, x6] = true) (hNT : 1 < NT) (hT : P.underlying T = some (.slice e)) (hz : (P.info? e).map (·.size) = some sz) (hF : FieldAt P TF j off) (hL : Ty P Tl 1 false) (hG : Text P G)
    (A : Base NT a (.slice (some ⟨b, off0, none⟩) n c) k i) (hi : i < n) (hc : w.cell? ⟨b, off0 + i * sz + off, none⟩ = some y)
    (hcall : Calls P G #[y, .int .i64 k] w fun e w' => e = .returned (.int .i64 k') ∧ R w') (next : ∀ a' w', Base NT a' (.slice (some ⟨b, off0, none⟩) n c) k' i → R w' → Q .normal a' w') : (Code.region id ops false).wp P Q a w := by
  subst hops
  simp only [freshB, Bool.and_eq_true] at hf
  obtain ⟨c0, b0, c1, b1, c2, b2, c3, b3, c4, b4, c5, b5, c6, b6, -⟩ := hf
  replace c0 := blt_of c0; replace b0 := blt_of b0
  replace c1 := blt_of c1; replace b1 := blt_of b1
  replace c2 := blt_of c2; replace b2 := blt_of b2
  replace c3 := blt_of c3; replace b3 := blt_of b3
  replace c4 := blt_of c4; replace b4 := blt_of b4
  replace c5 := blt_of c5; replace b5 := blt_of b5
  replace c6 := blt_of c6; replace b6 := blt_of b6
  refine wp_region ?_
  show wpOps P _ _ [0, 1, 2, 3, 4, 5, 6, 7] a w
  refine k_copy (v := .slice (some ⟨b, off0, none⟩) n c) rfl h0 (.inl rfl) (A.get (by simp)) ?_
  have A := A.put x0 (.slice (some ⟨b, off0, none⟩) n c) b0 (by simp; omega)
  refine k_copy (v := .int .i64 ((i : Nat) : Int)) rfl h1 (.inl rfl) (A.get (by simp)) ?_
  have A := A.put x1 (.int .i64 ((i : Nat) : Int)) b1 (by simp; omega)
  refine k_index rfl h2 hT hz (A.get (v := .slice (some ⟨b, off0, none⟩) n c) (by simp)) (A.get (by simp)) hi ?_
  have A := A.put x2 (.pointer (some ⟨b, off0 + i * sz, none⟩)) b2 (by simp; omega)
  refine k_field rfl h3 hF (A.get (v := .pointer (some ⟨b, off0 + i * sz, none⟩)) (by simp)) ?_
  have A := A.put x3 (.pointer (some ⟨b, off0 + i * sz + off, none⟩)) b3 (by simp; omega)
  refine k_load rfl h4 hL (A.get (v := .pointer (some ⟨b, off0 + i * sz + off, none⟩)) (by simp)) hc ?_
  have A := A.put x4 y b4 (by simp; omega)
  refine k_copy (v := .int .i64 k) rfl h5 (.inl rfl) (A.get (by simp)) ?_
  have A := A.put x5 (.int .i64 k) b5 (by simp; omega)
  refine k_call (args := #[y, .int .i64 k]) rfl h6 hG (by simp [A.get (t := x4) (v := y) (by simp), A.get (t := x5) (v := .int .i64 k) (by simp)]) hcall ?_
  rintro en w' ⟨rfl, hR⟩
  refine ⟨_, rfl, ?_⟩
  have A := A.put x6 (.int .i64 k') b6 (by simp; omega)
  refine k_copy (v := .int .i64 k') rfl h7 (.inr rfl) (A.get (by simp)) ?_
  refine k_end (next _ w' ?_ hR)
  exact A.set 1 _ _ hNT (by simp)

/-- A whole number's place is written: an element, or a field of it. -/
theorem rg_st {P : Program} {NT id x0 x1 x2 x3 x4 : Nat} {T e sz TF j off Ti : Nat} {ops : Array Oper} {o0 o1 o2 o3 o4 o5 : Oper} {b off0 n c eb : Nat} {k : Int} {i : Nat} {a : Act} {w : World} {Q : Exit → Act → World → Prop} {cur : Array Value}
    (hops : ops = #[o0, o1, o2, o3, o4, o5])
    (h0 : Is o0 (.move (.tmp 0)) (some x0)) (h1 : Is o1 (.move (.tmp 5)) (some x1)) (h2 : Is o2 (.move (.tmp 1)) (some x2)) (h3 : Is o3 (.indexAddr T (.tmp x0) (.tmp x1)) (some x3)) (h4 : Is o4 (.fieldAddr TF (.tmp x3) j) (some x4)) (h5 : Is o5 (.store Ti (.tmp x4) (.tmp x2)) none)
    (hf : freshB NT 5 [x0, x1, x2, x3, x4] = true) (hT : P.underlying T = some (.slice e)) (hz : (P.info? e).map (·.size) = some sz) (hF : FieldAt P TF j off) (hL : (P.info? Ti).map (·.size) = some 1)
    (A : Base NT a (.slice (some ⟨b, off0, none⟩) n c) k i) (hi : i < n) (hh : w.heap[b]? = some (.cells cur eb (0, 0))) (hp : off0 + i * sz + off < cur.size)
    (next : ∀ a', Base NT a' (.slice (some ⟨b, off0, none⟩) n c) k i → Q .normal a' (w.setRow b (cur.toList.take (off0 + i * sz + off) ++ [Value.int .i64 k] ++ cur.toList.drop (off0 + i * sz + off + 1)).toArray)) : (Code.region id ops false).wp P Q a w := by
  subst hops
  simp only [freshB, Bool.and_eq_true] at hf
  obtain ⟨c0, b0, c1, b1, c2, b2, c3, b3, c4, b4, -⟩ := hf
  replace c0 := blt_of c0; replace b0 := blt_of b0
  replace c1 := blt_of c1; replace b1 := blt_of b1
  replace c2 := blt_of c2; replace b2 := blt_of b2
  replace c3 := blt_of c3; replace b3 := blt_of b3
  replace c4 := blt_of c4; replace b4 := blt_of b4
  refine wp_region ?_
  show wpOps P _ _ [0, 1, 2, 3, 4, 5] a w
  refine k_copy (v := .slice (some ⟨b, off0, none⟩) n c) rfl h0 (.inl rfl) (A.get (by simp)) ?_
  have A := A.put x0 (.slice (some ⟨b, off0, none⟩) n c) b0 (by simp; omega)
  refine k_copy (v := .int .i64 ((i : Nat) : Int)) rfl h1 (.inl rfl) (A.get (by simp)) ?_
  have A := A.put x1 (.int .i64 ((i : Nat) : Int)) b1 (by simp; omega)
  refine k_copy (v := .int .i64 k) rfl h2 (.inl rfl) (A.get (by simp)) ?_
  have A := A.put x2 (.int .i64 k) b2 (by simp; omega)
  refine k_index rfl h3 hT hz (A.get (v := .slice (some ⟨b, off0, none⟩) n c) (by simp)) (A.get (by simp)) hi ?_
  have A := A.put x3 (.pointer (some ⟨b, off0 + i * sz, none⟩)) b3 (by simp; omega)
  refine k_field rfl h4 hF (A.get (v := .pointer (some ⟨b, off0 + i * sz, none⟩)) (by simp)) ?_
  have A := A.put x4 (.pointer (some ⟨b, off0 + i * sz + off, none⟩)) b4 (by simp; omega)
  refine k_store rfl h5 hL (A.get (v := .pointer (some ⟨b, off0 + i * sz + off, none⟩)) (by simp)) (A.get (v := .int .i64 k) (by simp)) rfl rfl hh hp ?_
  refine k_end (next _ ?_)
  exact A.keep _ (by simp)
theorem rg_st0 {P : Program} {NT id x0 x1 x2 x3 : Nat} {T e Ti : Nat} {ops : Array Oper} {o0 o1 o2 o3 o4 : Oper} {b off0 n c eb : Nat} {k : Int} {i : Nat} {a : Act} {w : World} {Q : Exit → Act → World → Prop} {cur : Array Value}
    (hops : ops = #[o0, o1, o2, o3, o4])
    (h0 : Is o0 (.move (.tmp 0)) (some x0)) (h1 : Is o1 (.move (.tmp 5)) (some x1)) (h2 : Is o2 (.move (.tmp 1)) (some x2)) (h3 : Is o3 (.indexAddr T (.tmp x0) (.tmp x1)) (some x3)) (h4 : Is o4 (.store Ti (.tmp x3) (.tmp x2)) none)
    (hf : freshB NT 5 [x0, x1, x2, x3] = true) (hT : P.underlying T = some (.slice e)) (hz : (P.info? e).map (·.size) = some 1) (hL : (P.info? Ti).map (·.size) = some 1)
    (A : Base NT a (.slice (some ⟨b, off0, none⟩) n c) k i) (hi : i < n) (hh : w.heap[b]? = some (.cells cur eb (0, 0))) (hp : off0 + i * 1 < cur.size)
    (next : ∀ a', Base NT a' (.slice (some ⟨b, off0, none⟩) n c) k i → Q .normal a' (w.setRow b (cur.toList.take (off0 + i * 1) ++ [Value.int .i64 k] ++ cur.toList.drop (off0 + i * 1 + 1)).toArray)) : (Code.region id ops false).wp P Q a w := by
  subst hops
  simp only [freshB, Bool.and_eq_true] at hf
  obtain ⟨c0, b0, c1, b1, c2, b2, c3, b3, -⟩ := hf
  replace c0 := blt_of c0; replace b0 := blt_of b0
  replace c1 := blt_of c1; replace b1 := blt_of b1
  replace c2 := blt_of c2; replace b2 := blt_of b2
  replace c3 := blt_of c3; replace b3 := blt_of b3
  refine wp_region ?_
  show wpOps P _ _ [0, 1, 2, 3, 4] a w
  refine k_copy (v := .slice (some ⟨b, off0, none⟩) n c) rfl h0 (.inl rfl) (A.get (by simp)) ?_
  have A := A.put x0 (.slice (some ⟨b, off0, none⟩) n c) b0 (by simp; omega)
  refine k_copy (v := .int .i64 ((i : Nat) : Int)) rfl h1 (.inl rfl) (A.get (by simp)) ?_
  have A := A.put x1 (.int .i64 ((i : Nat) : Int)) b1 (by simp; omega)
  refine k_copy (v := .int .i64 k) rfl h2 (.inl rfl) (A.get (by simp)) ?_
  have A := A.put x2 (.int .i64 k) b2 (by simp; omega)
  refine k_index rfl h3 hT hz (A.get (v := .slice (some ⟨b, off0, none⟩) n c) (by simp)) (A.get (by simp)) hi ?_
  have A := A.put x3 (.pointer (some ⟨b, off0 + i * 1, none⟩)) b3 (by simp; omega)
  refine k_store rfl h4 hL (A.get (v := .pointer (some ⟨b, off0 + i * 1, none⟩)) (by simp)) (A.get (v := .int .i64 k) (by simp)) rfl rfl hh hp ?_
  refine k_end (next _ ?_)
  exact A.keep _ (by simp)

/-- A text's place is written: an element, or a field of it. -/
theorem rg_tx {P : Program} {NT id x0 x1 x2 x3 x4 x5 : Nat} {T e sz TF j off Ti G : Nat} {ats : Array TypeId} {ops : Array Oper} {o0 o1 o2 o3 o4 o5 o6 : Oper} {b off0 n c eb : Nat} {k : Int} {i : Nat} {a : Act} {w : World} {Q : Exit → Act → World → Prop} {cur : Array Value}
    (hops : ops = #[o0, o1, o2, o3, o4, o5, o6])
    (h0 : Is o0 (.move (.tmp 0)) (some x0)) (h1 : Is o1 (.move (.tmp 5)) (some x1)) (h2 : Is o2 (.move (.tmp 1)) (some x2)) (h3 : Is o3 (.call { callee := .value (.func G), args := #[.tmp x2], argTypes := ats }) (some x3)) (h4 : Is o4 (.indexAddr T (.tmp x0) (.tmp x1)) (some x4))
    (h5 : Is o5 (.fieldAddr TF (.tmp x4) j) (some x5)) (h6 : Is o6 (.store Ti (.tmp x5) (.tmp x3)) none)
    (hf : freshB NT 5 [x0, x1, x2, x3, x4, x5] = true) (hT : P.underlying T = some (.slice e)) (hz : (P.info? e).map (·.size) = some sz) (hF : FieldAt P TF j off) (hL : (P.info? Ti).map (·.size) = some 1) (hG : Text P G)
    (A : Base NT a (.slice (some ⟨b, off0, none⟩) n c) k i) (hi : i < n) (hh : w.heap[b]? = some (.cells cur eb (0, 0))) (hp : off0 + i * sz + off < cur.size)
    (hcall : Calls P G #[.int .i64 k] w fun e w' => (∃ s, e = .returned (.string s)) ∧ Below w.heap.size w w')
    (next : ∀ a' w' s, Base NT a' (.slice (some ⟨b, off0, none⟩) n c) k i → Below w.heap.size w w' → Q .normal a' (w'.setRow b (cur.toList.take (off0 + i * sz + off) ++ [Value.string s] ++ cur.toList.drop (off0 + i * sz + off + 1)).toArray)) : (Code.region id ops false).wp P Q a w := by
  subst hops
  simp only [freshB, Bool.and_eq_true] at hf
  obtain ⟨c0, b0, c1, b1, c2, b2, c3, b3, c4, b4, c5, b5, -⟩ := hf
  replace c0 := blt_of c0; replace b0 := blt_of b0
  replace c1 := blt_of c1; replace b1 := blt_of b1
  replace c2 := blt_of c2; replace b2 := blt_of b2
  replace c3 := blt_of c3; replace b3 := blt_of b3
  replace c4 := blt_of c4; replace b4 := blt_of b4
  replace c5 := blt_of c5; replace b5 := blt_of b5
  have hlt : b < w.heap.size := (Array.getElem?_eq_some_iff.1 hh).1
  refine wp_region ?_
  show wpOps P _ _ [0, 1, 2, 3, 4, 5, 6] a w
  refine k_copy (v := .slice (some ⟨b, off0, none⟩) n c) rfl h0 (.inl rfl) (A.get (by simp)) ?_
  have A := A.put x0 (.slice (some ⟨b, off0, none⟩) n c) b0 (by simp; omega)
  refine k_copy (v := .int .i64 ((i : Nat) : Int)) rfl h1 (.inl rfl) (A.get (by simp)) ?_
  have A := A.put x1 (.int .i64 ((i : Nat) : Int)) b1 (by simp; omega)
  refine k_copy (v := .int .i64 k) rfl h2 (.inl rfl) (A.get (by simp)) ?_
  have A := A.put x2 (.int .i64 k) b2 (by simp; omega)
  refine k_call (args := #[.int .i64 k]) rfl h3 hG (by simp [A.get (t := x2) (v := .int .i64 k) (by simp)]) hcall ?_
  rintro en w' ⟨⟨s, rfl⟩, hR⟩
  refine ⟨_, rfl, ?_⟩
  have A := A.put x3 (.string s) b3 (by simp; omega)
  refine k_index rfl h4 hT hz (A.get (v := .slice (some ⟨b, off0, none⟩) n c) (by simp)) (A.get (by simp)) hi ?_
  have A := A.put x4 (.pointer (some ⟨b, off0 + i * sz, none⟩)) b4 (by simp; omega)
  refine k_field rfl h5 hF (A.get (v := .pointer (some ⟨b, off0 + i * sz, none⟩)) (by simp)) ?_
  have A := A.put x5 (.pointer (some ⟨b, off0 + i * sz + off, none⟩)) b5 (by simp; omega)
  refine k_store rfl h6 hL (A.get (v := .pointer (some ⟨b, off0 + i * sz + off, none⟩)) (by simp)) (A.get (v := .string s) (by simp)) rfl rfl ((hR.block b hlt).trans hh) hp ?_
  refine k_end (next _ w' s ?_ hR)
  exact A.keep _ (by simp)
theorem rg_tx0 {P : Program} {NT id x0 x1 x2 x3 x4 : Nat} {T e Ti G : Nat} {ats : Array TypeId} {ops : Array Oper} {o0 o1 o2 o3 o4 o5 : Oper} {b off0 n c eb : Nat} {k : Int} {i : Nat} {a : Act} {w : World} {Q : Exit → Act → World → Prop} {cur : Array Value}
    (hops : ops = #[o0, o1, o2, o3, o4, o5])
    (h0 : Is o0 (.move (.tmp 0)) (some x0)) (h1 : Is o1 (.move (.tmp 5)) (some x1)) (h2 : Is o2 (.move (.tmp 1)) (some x2)) (h3 : Is o3 (.call { callee := .value (.func G), args := #[.tmp x2], argTypes := ats }) (some x3)) (h4 : Is o4 (.indexAddr T (.tmp x0) (.tmp x1)) (some x4))
    (h5 : Is o5 (.store Ti (.tmp x4) (.tmp x3)) none)
    (hf : freshB NT 5 [x0, x1, x2, x3, x4] = true) (hT : P.underlying T = some (.slice e)) (hz : (P.info? e).map (·.size) = some 1) (hL : (P.info? Ti).map (·.size) = some 1) (hG : Text P G)
    (A : Base NT a (.slice (some ⟨b, off0, none⟩) n c) k i) (hi : i < n) (hh : w.heap[b]? = some (.cells cur eb (0, 0))) (hp : off0 + i * 1 < cur.size)
    (hcall : Calls P G #[.int .i64 k] w fun e w' => (∃ s, e = .returned (.string s)) ∧ Below w.heap.size w w')
    (next : ∀ a' w' s, Base NT a' (.slice (some ⟨b, off0, none⟩) n c) k i → Below w.heap.size w w' → Q .normal a' (w'.setRow b (cur.toList.take (off0 + i * 1) ++ [Value.string s] ++ cur.toList.drop (off0 + i * 1 + 1)).toArray)) : (Code.region id ops false).wp P Q a w := by
  subst hops
  simp only [freshB, Bool.and_eq_true] at hf
  obtain ⟨c0, b0, c1, b1, c2, b2, c3, b3, c4, b4, -⟩ := hf
  replace c0 := blt_of c0; replace b0 := blt_of b0
  replace c1 := blt_of c1; replace b1 := blt_of b1
  replace c2 := blt_of c2; replace b2 := blt_of b2
  replace c3 := blt_of c3; replace b3 := blt_of b3
  replace c4 := blt_of c4; replace b4 := blt_of b4
  have hlt : b < w.heap.size := (Array.getElem?_eq_some_iff.1 hh).1
  refine wp_region ?_
  show wpOps P _ _ [0, 1, 2, 3, 4, 5] a w
  refine k_copy (v := .slice (some ⟨b, off0, none⟩) n c) rfl h0 (.inl rfl) (A.get (by simp)) ?_
  have A := A.put x0 (.slice (some ⟨b, off0, none⟩) n c) b0 (by simp; omega)
  refine k_copy (v := .int .i64 ((i : Nat) : Int)) rfl h1 (.inl rfl) (A.get (by simp)) ?_
  have A := A.put x1 (.int .i64 ((i : Nat) : Int)) b1 (by simp; omega)
  refine k_copy (v := .int .i64 k) rfl h2 (.inl rfl) (A.get (by simp)) ?_
  have A := A.put x2 (.int .i64 k) b2 (by simp; omega)
  refine k_call (args := #[.int .i64 k]) rfl h3 hG (by simp [A.get (t := x2) (v := .int .i64 k) (by simp)]) hcall ?_
  rintro en w' ⟨⟨s, rfl⟩, hR⟩
  refine ⟨_, rfl, ?_⟩
  have A := A.put x3 (.string s) b3 (by simp; omega)
  refine k_index rfl h4 hT hz (A.get (v := .slice (some ⟨b, off0, none⟩) n c) (by simp)) (A.get (by simp)) hi ?_
  have A := A.put x4 (.pointer (some ⟨b, off0 + i * 1, none⟩)) b4 (by simp; omega)
  refine k_store rfl h5 hL (A.get (v := .pointer (some ⟨b, off0 + i * 1, none⟩)) (by simp)) (A.get (v := .string s) (by simp)) rfl rfl ((hR.block b hlt).trans hh) hp ?_
  refine k_end (next _ w' s ?_ hR)
  exact A.keep _ (by simp)

/-- The walk that all of them have: a loop over a slice, a number that goes up. -/
theorem mark_fn {P : Program} {f : FuncId} {fn : Func} {NT r0 r1 r2 r3 r4 b0 b1 T e t2 t3 t4 t5 tl : Nat} {R0 R1 R2 R3 R4 : Array Oper} {BODY : Code} {q0 q1 p0 p1 p2 p3 s0 s1 s2 u0 u1 : Oper} {ad : Option Addr} {n cap : Nat} {kv : Nat → Int} {J : Nat → World → Prop}
    (hf : P.funcs[f]? = some fn)
    (hb : fn.body = some (.seq (.region r0 R0 false) (.seq (.seq (.region r1 R1 false) (.block b0 (.loop (.seq (.seq (.region r2 R2 false) (.cond (.tmp 9) .skip (.exit b0))) (.seq (.block b1 BODY) (.region r3 R3 false)))))) (.seq (.region r4 R4 false) .ret))))
    (hNT : fn.ntmps = NT) (hres : fn.results = #[.tmp 4])
    (e0 : R0 = #[q0]) (e1 : R1 = #[q1]) (e2 : R2 = #[p0, p1, p2, p3]) (e3 : R3 = #[s0, s1, s2]) (e4 : R4 = #[u0, u1])
    (i0 : Is q0 (.assign (.const (.int .i64 0))) (some 4)) (i1 : Is q1 (.assign (.const (.int .i64 0))) (some 5))
    (j0 : Is p0 (.move (.tmp 5)) (some 6)) (j1 : Is p1 (.move (.tmp 0)) (some 7)) (j2 : Is p2 (.call { callee := .builtin .len, args := #[.tmp 7], argTypes := #[T] }) (some 8)) (j3 : Is p3 (.binOp .lss t2 (.tmp 6) (.tmp 8) t3) (some 9))
    (k0 : Is s0 (.move (.tmp 5)) (some 10)) (k1 : Is s1 (.binOp .add t4 (.tmp 10) (.const (.int .i64 1)) t5) (some 11)) (k2 : Is s2 (.assign (.tmp 11)) (some 5))
    (l0 : Is u0 (.move (.tmp 1)) (some tl)) (l1 : Is u1 (.assign (.tmp tl)) (some 4)) (htl : (Nat.blt 11 tl && Nat.blt tl NT) = true) (hT : P.underlying T = some (.slice e)) (hn : n ≤ 4611686018427387904)
    (body : ∀ (i : Nat) (a : Act) (w : World), i < n → Base NT a (.slice ad n cap) (kv i) i → J i w → BODY.wp P (fun en a' w' => en = .normal ∧ Base NT a' (.slice ad n cap) (kv (i + 1)) i ∧ J (i + 1) w') a w)
    (w : World) (h0 : J 0 w) {kz : Int} (hkz : kv 0 = kz) : Calls P f #[.slice ad n cap, .int .i64 kz] w fun en w' => en = .returned (.int .i64 (kv n)) ∧ J n w' := by
  subst hkz
  subst e0 e1 e2 e3 e4
  rw [Bool.and_eq_true] at htl
  have htl1 : 11 < tl := Nat.le_of_ble_eq_true htl.1
  have htl2 : tl < NT := Nat.le_of_ble_eq_true htl.2
  refine calls_of_wp hf hb ?_
  rw [hNT]
  have A := Knows.start (n := NT) #[.slice ad n cap, .int .i64 (kv 0)] (by simp; omega)
  have A : Knows NT { tmps := #[.slice ad n cap, .int .i64 (kv 0)] ++ Array.replicate (NT - 2) undef, defers := [] } [(0, .slice ad n cap), (1, .int .i64 (kv 0))] := A
  show Code.wp P _ _ { tmps := #[.slice ad n cap, .int .i64 (kv 0)] ++ Array.replicate (NT - 2) undef, defers := [] } w
  generalize ({ tmps := #[.slice ad n cap, .int .i64 (kv 0)] ++ Array.replicate (NT - 2) undef, defers := [] } : Act) = a0 at A ⊢
  refine wp_seq (wp_region ?_)
  show wpOps P _ _ [0] a0 w
  refine k_copy (v := .int .i64 0) rfl i0 (.inr rfl) rfl ?_
  have A := A.put 4 (.int .i64 0) (by omega) (by simp)
  generalize a0.put (some 4) (.int .i64 0) = a1 at A ⊢
  refine k_end ?_
  refine wp_seq (wp_seq (wp_region ?_))
  show wpOps P _ _ [0] a1 w
  refine k_copy (v := .int .i64 0) rfl i1 (.inr rfl) rfl ?_
  have A := A.put 5 (.int .i64 0) (by omega) (by simp)
  have A : Base NT (a1.put (some 5) (.int .i64 0)) (.slice ad n cap) (kv 0) 0 := A.keep _ (by simp)
  generalize a1.put (some 5) (.int .i64 0) = a2 at A ⊢
  refine k_end ?_
  refine wp_block (wp_loop_ghost (fun m a w => ∃ i, m = n - i ∧ i ≤ n ∧ Base NT a (.slice ad n cap) (kv i) i ∧ J i w) n ⟨0, by omega, by omega, A, h0⟩ ?_)
  clear A h0
  rintro m a w ⟨i, rfl, hi, A, hJ⟩
  refine wp_seq (wp_seq (wp_region ?_))
  show wpOps P _ _ [0, 1, 2, 3] a w
  refine k_copy (v := .int .i64 ((i : Nat) : Int)) rfl j0 (.inl rfl) (A.get (by simp)) ?_
  have A := A.put 6 (.int .i64 ((i : Nat) : Int)) (by omega) (by simp)
  refine k_copy (v := .slice ad n cap) rfl j1 (.inl rfl) (A.get (by simp)) ?_
  have A := A.put 7 (.slice ad n cap) (by omega) (by simp)
  refine k_len rfl j2 hT (A.get (v := .slice ad n cap) (by simp)) ?_
  have A := A.put 8 (.int .i64 ((n : Nat) : Int)) (by omega) (by simp)
  refine k_bin (op := .lss) (k := .i64) (m := ((i : Nat) : Int)) (n := ((n : Nat) : Int)) (r := .bool (decide (((i : Nat) : Int) < ((n : Nat) : Int)))) (v := .bool (decide (((i : Nat) : Int) < ((n : Nat) : Int)))) rfl j3 (A.get (by simp)) (A.get (by simp)) rfl rfl ?_
  have A := A.put 9 (.bool (decide (((i : Nat) : Int) < ((n : Nat) : Int)))) (by omega) (by simp)
  refine k_end ?_
  show Code.wp P _ _ _ w
  refine wp_cond (A.get (t := 9) (v := .bool (decide (((i : Nat) : Int) < ((n : Nat) : Int)))) (by simp)) ?_
  by_cases hlt : i < n
  · rw [decide_eq_true (by omega : ((i : Nat) : Int) < ((n : Nat) : Int))] at A ⊢
    have A : Base NT _ (.slice ad n cap) (kv i) i := A.keep _ (by simp)
    refine wp_skip ?_
    refine wp_seq (wp_block ?_)
    refine wp_mono (body i _ w hlt A hJ) ?_
    rintro en a' w' ⟨rfl, A, hJ⟩
    show Code.wp P _ _ a' w'
    refine wp_region ?_
    show wpOps P _ _ [0, 1, 2] a' w'
    refine k_copy (v := .int .i64 ((i : Nat) : Int)) rfl k0 (.inl rfl) (A.get (by simp)) ?_
    have A := A.put 10 (.int .i64 ((i : Nat) : Int)) (by omega) (by simp)
    refine k_bin (op := .add) (k := .i64) (m := ((i : Nat) : Int)) (n := 1) (r := .int .i64 ((i + 1 : Nat) : Int)) (v := .int .i64 ((i + 1 : Nat) : Int)) rfl k1 (A.get (by simp)) rfl (by simp only [intOp]; rw [wrap_in (show ((i : Nat) : Int) + 1 = ((i + 1 : Nat) : Int) by omega) (by omega) (by omega)]) rfl ?_
    have A := A.put 11 (.int .i64 ((i + 1 : Nat) : Int)) (by omega) (by simp)
    refine k_copy (v := .int .i64 ((i + 1 : Nat) : Int)) rfl k2 (.inr rfl) (A.get (by simp)) ?_
    refine k_end ?_
    exact ⟨n - (i + 1), by omega, i + 1, rfl, by omega, A.set 5 _ _ (by omega) (by simp), hJ⟩
  · rw [decide_eq_false (by omega : ¬ ((i : Nat) : Int) < ((n : Nat) : Int))] at A ⊢
    obtain rfl : i = n := by omega
    refine wp_exit ?_
    simp only [Exit.then, Exit.inBlock, if_true]
    refine wp_seq (wp_region ?_)
    show wpOps P _ _ [0, 1] _ w
    refine k_copy (v := .int .i64 (kv i)) rfl l0 (.inl rfl) (A.get (by simp)) ?_
    have A := A.put tl (.int .i64 (kv i)) htl2 (by simp; omega)
    refine k_copy (v := .int .i64 (kv i)) rfl l1 (.inr rfl) (A.get (by simp)) ?_
    have A := A.put 4 (.int .i64 (kv i)) (by omega) (by simp; omega)
    refine k_end ?_
    refine wp_ret ?_
    refine ⟨A.1, .int .i64 (kv i), ?_, rfl, hJ⟩
    exact run_results (P := P) fn _ [.int .i64 (kv i)] (by rw [hres]; have := A.get (t := 4) (v := .int .i64 (kv i)) (by simp); simp only [Act.eval] at this; simp [resSem, this])

theorem Mk.laid {S : Nat → Prop} {w0 w : World} {n0 : Nat} (hm : Mk S w0 w) (hn0 : ∀ b, S b → n0 ≤ b) (hsz : n0 ≤ w0.heap.size) (hlaw : ∀ w', (∀ b, b < n0 → w'.heap[b]? = w0.heap[b]?) → Lw w') : ∀ w', (∀ b, b < n0 → w'.heap[b]? = w.heap[b]?) → Lw w' :=
  fun w' h => hlaw w' fun b hb => (h b hb).trans (hm.off b (by omega) fun hs => by have := hn0 b hs; omega)
/-- One cell of data, at a later time. -/
theorem cell_at {S : Nat → Prop} {w0 w : World} {b off n cap sz i j : Nat} {rows : List (List SV)} {r : List SV} {x : SV} (hsh : ShRep S w0 (.slice (some ⟨b, off, none⟩) n cap) (.sl sz rows)) (hsoft : Soft S w0) (hm : Mk S w0 w) (hr : rows[i]? = some r) (hj : r[j]? = some x) :
    S b ∧ ∃ cur eb y, w.heap[b]? = some (.cells cur eb (0, 0)) ∧ cur[off + i * sz + j]? = some y ∧ off + i * sz + j < cur.size ∧ w.cell? ⟨b, off + i * sz + j, none⟩ = some y ∧ ShRep S w y x := by
  obtain ⟨b', off', e, hS, -, hc⟩ := (hsh.mk hsoft hm).row hr
  cases e
  obtain ⟨y, h1, h2⟩ := hc j x hj
  obtain ⟨cur, eb, hh⟩ := (hm.soft hsoft) b hS
  have hcur : cur[off + i * sz + j]? = some y := by simpa [World.cell?, hh] using h1
  exact ⟨hS, cur, eb, y, hh, hcur, (Array.getElem?_eq_some_iff.1 hcur).1, h1, h2⟩
theorem text_calls {P : Program} {f : FuncId} {k : Int} (h : CallV P f [.lf (.im true (.int .i64 k))] fun s => ∃ t, s = .lf (.im true (.str t))) (w : World) (hl : Lw w) : Calls P f #[.int .i64 k] w fun e w' => (∃ s, e = .returned (.string s)) ∧ Below w.heap.size w w' := by
  refine (h (fun _ => .none) w #[.int .i64 k] hl (fun _ _ _ _ e => by cases e) (fun _ _ => rfl) rfl (fun i p v h1 h2 => ?_)).mono ?_
  · cases i with
    | zero => simp at h1 h2; subst h1 h2; exact SRep.int .i64 k
    | succ i => simp at h1
  · rintro e w' ⟨v, g', s, rfl, hb, ⟨t, rfl⟩, hs, -⟩
    have hs : SRep (Imm g' true) w' v (.str t) := hs
    cases hs
    exact ⟨⟨t, rfl⟩, hb⟩
end Go.Proofs.YtahciphhopiipaaGreatDoor.V
