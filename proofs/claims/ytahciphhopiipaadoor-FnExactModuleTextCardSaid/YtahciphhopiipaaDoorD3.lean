/- The plain law of FnExactModuleText: texts as rows of bytes. -/
import Derived.Test.YtahciphhopiipaaDoorE1
set_option linter.unusedVariables false
set_option linter.unusedSimpArgs false
namespace Go.Proofs.YtahciphhopiipaaDoor
open Go V

theorem bl_ex : ∃ f : List UInt8 → ByteArray, ∀ l, f l = ⟨l.toArray⟩ := ⟨_, fun _ => rfl⟩
/-- A text of bytes; the kernel does not look into it. -/
noncomputable def bl : List UInt8 → ByteArray := Classical.choose bl_ex
theorem bl_eq (l : List UInt8) : bl l = ⟨l.toArray⟩ := Classical.choose_spec bl_ex l
theorem bl_size (l : List UInt8) : (bl l).size = l.length := by rw [bl_eq]; simp [ByteArray.size]
theorem bl_data (l : List UInt8) : (bl l).data.toList = l := by rw [bl_eq]
theorem bb {x y : ByteArray} (h : x.data.toList = y.data.toList) : x = y := ByteArray.ext (Array.ext' h)
theorem dapp (x y : ByteArray) : (x ++ y).data.toList = x.data.toList ++ y.data.toList := by rw [ByteArray.data_append, Array.toList_append]
theorem dmk (l : List UInt8) : (⟨⟨l⟩⟩ : ByteArray).data.toList = l := rfl
theorem bl_app (a b : List UInt8) : bl a ++ bl b = bl (a ++ b) := bb (by rw [dapp, bl_data, bl_data, bl_data])
theorem strb {a b : ByteArray} (h : a.size + b.size ≤ 1000000000) : ((a.size + b.size : Nat) : Int) ≤ IntKind.i64.max := by
  show ((a.size + b.size : Nat) : Int) ≤ 9223372036854775807; omega
theorem retS {a b : ByteArray} (h : a = b) : slotOf [.lf (.im true (.str a))] = .lf (.im true (.str b)) := by rw [h]; rfl

/-- Numbers. -/
def inR (n : Int) : Prop := -9223372036854775808 ≤ n ∧ n ≤ 9223372036854775807
theorem decB_data (n : Int) : (decB n).data.toList = Lib.itoa n := rfl
theorem digits_len : ∀ (k u : Nat), u < 10 ^ (k + 1) → (Lib.decDigits u).length ≤ k + 1
  | 0, u, h => by rw [Lib.decDigits.eq_1, dif_pos (by omega)]; simp
  | k + 1, u, h => by
    rw [Lib.decDigits.eq_1]
    split
    · simp
    · rw [List.length_append]
      have := digits_len k (u / 10) (by rw [Nat.pow_succ] at h; omega)
      simp; omega
theorem itoa_len {n : Int} (h : inR n) : (Lib.itoa n).length ≤ 20 := by
  obtain ⟨h0, h1⟩ := h
  unfold Lib.itoa
  split
  · rw [List.length_cons]; have := digits_len 18 n.natAbs (by omega); omega
  · have := digits_len 18 n.toNat (by omega); omega
theorem decB_size {n : Int} (h : inR n) : (decB n).size ≤ 20 := by
  have := itoa_len h
  have e : (decB n).size = (Lib.itoa n).length := by unfold decB; simp [ByteArray.size]
  omega
def dg (k : Int) : ByteArray := ⟨#[UInt8.ofNat (48 + k.toNat)]⟩
theorem dg_size (k : Int) : (dg k).size = 1 := rfl
theorem dg_rows {k : Int} (h0 : 0 ≤ k) (h1 : k < 10) : ([[.int .u8 (48 + k)]] : List (List SV)) = bytesR (dg k) := by
  have e : ((UInt8.ofNat (48 + k.toNat)).toNat : Int) = 48 + k := by
    rw [UInt8.toNat_ofNat']; omega
  show _ = [[SV.int .u8 ((UInt8.ofNat (48 + k.toNat)).toNat : Int)]]
  rw [e]
theorem dec_min {n : Int} (h : n < -9223372036854775807) (h0 : inR n) : (⟨#[45, 57, 50, 50, 51, 51, 55, 50, 48, 51, 54, 56, 53, 52, 55, 55, 53, 56, 48, 56]⟩ : ByteArray) = decB n := by
  obtain rfl : n = -9223372036854775808 := by have := h0.1; omega
  refine bb ?_
  rw [decB_data]
  simp [Lib.itoa, Lib.decDigits.eq_1]
theorem dec_neg {n : Int} (h : n < 0) : (⟨#[45]⟩ : ByteArray) ++ decB (-n) = decB n := by
  refine bb ?_
  rw [dapp, decB_data, decB_data]
  unfold Lib.itoa
  rw [if_neg (by omega), if_pos h, show (-n).toNat = n.natAbs by omega]
  rfl
theorem dec_lt {n : Int} (h0 : ¬ n < 0) (h : n < 10) : dg n = decB n := by
  refine bb ?_
  rw [decB_data]
  unfold Lib.itoa
  rw [if_neg h0, Lib.decDigits.eq_1, dif_pos (by omega)]
  rfl
theorem dec_ge {n : Int} (h : ¬ n < 10) : decB (n / 10) ++ dg (n % 10) = decB n := by
  refine bb ?_
  rw [dapp, decB_data, decB_data]
  unfold Lib.itoa
  rw [if_neg (by omega), if_neg (by omega), Lib.decDigits.eq_1 n.toNat, dif_neg (by omega), show (n / 10).toNat = n.toNat / 10 by omega]
  show _ ++ [UInt8.ofNat (48 + (n % 10).toNat)] = _
  rw [show (n % 10).toNat = n.toNat % 10 by omega]
def dm (n : Int) : Nat := 2 * n.natAbs + if n < 0 then 1 else 0

/-- Words behind blanks. -/
def thL (ws : List ByteArray) : List UInt8 := ws.flatMap fun w => 32 :: w.data.toList
theorem thL_nil : thL [] = [] := rfl
theorem thL_cons (w : ByteArray) (ws : List ByteArray) : thL (w :: ws) = 32 :: w.data.toList ++ thL ws := rfl
theorem thL_app (a b : List ByteArray) : thL (a ++ b) = thL a ++ thL b := List.flatMap_append
theorem flat_succ {α β : Type} {f : α → List β} {l : List α} {i : Nat} {x : α} (h : l[i]? = some x) : (l.take i).flatMap f ++ f x = (l.take (i + 1)).flatMap f := by
  rw [List.take_add_one, h, List.flatMap_append]; simp
theorem flat_all {α β : Type} {f : α → List β} {l : List α} {i : Nat} (h : l.length ≤ i) : (l.take i).flatMap f = l.flatMap f := by rw [List.take_of_length_le h]
theorem flat_le {α β : Type} (f : α → List β) (l : List α) (i : Nat) : ((l.take i).flatMap f).length ≤ (l.flatMap f).length := by
  conv => rhs; rw [← List.take_append_drop i l, List.flatMap_append, List.length_append]
  omega
theorem flat_len {α : Type} {f : α → List UInt8} {w : α → Nat} {l : List α} {C : Nat} (h : ∀ x ∈ l, (f x).length ≤ C * (1 + w x)) : (l.flatMap f).length ≤ C * (l.length + (l.map w).sum) := by
  induction l with
  | nil => simp
  | cons x xs ih =>
    have h1 := h x (by simp)
    have h2 := ih fun y hy => h y (by simp [hy])
    simp only [List.flatMap_cons, List.length_append, List.length_cons, List.map_cons, List.sum_cons]
    have e : C * (xs.length + 1 + (w x + (xs.map w).sum)) = C * (1 + w x) + C * (xs.length + (xs.map w).sum) := by rw [← Nat.mul_add]; congr 1; omega
    omega
theorem thL_len (ws : List ByteArray) : (thL ws).length = wS ws := by
  induction ws with
  | nil => rfl
  | cons w ws ih =>
    rw [thL_cons]
    unfold wS at ih ⊢
    simp only [List.length_append, List.length_cons, List.map_cons, List.sum_cons, ih, Array.length_toList]
    show w.size + 1 + _ = _
    omega
theorem thL_dec {l : List Int} (h : ∀ n ∈ l, inR n) : (thL (l.map decB)).length ≤ 21 * l.length := by
  induction l with
  | nil => simp [thL]
  | cons n l ih =>
    have h1 := itoa_len (h n (by simp))
    have h2 := ih fun m hm => h m (by simp [hm])
    rw [List.map_cons, thL_cons, decB_data]
    simp only [List.length_append, List.length_cons]
    omega
theorem joinB_cons (w : ByteArray) (ws : List ByteArray) : (joinB (w :: ws) sp1).data.toList = w.data.toList ++ thL ws := by
  show Lib.join _ _ = _
  unfold Lib.join
  rw [show sp1.data.toList = [32] from rfl]
  induction ws generalizing w with
  | nil => simp [thL, List.intercalate]
  | cons v vs ih =>
    have := ih v
    rw [List.map_cons, List.map_cons, List.intercalate, List.intersperse_cons_cons, List.flatten_cons, List.flatten_cons]
    rw [List.map_cons, List.intercalate] at this
    rw [this, thL_cons]
    simp

/-- The text of a module. -/
def insL (i : Ins) : List UInt8 := i.op.data.toList ++ ((if 0 < (formV i.op).a then 32 :: Lib.itoa i.a else []) ++ (if 0 < (formV i.op).b then 32 :: Lib.itoa i.b else []))
def insE (i : Ins) : List UInt8 := insL i ++ [10]
def codeT (l : List Ins) : List UInt8 := l.flatMap insE
def recT (r : Rec) : List UInt8 := [114, 101, 99, 111, 114, 100, 32] ++ (Lib.itoa r.able ++ (thL r.fields ++ [10]))
def frT (l : List Int) : List UInt8 := if 0 < l.length then [102, 114, 105, 101, 110, 100] ++ (thL (l.map decB) ++ [10]) else []
def fnH (f : Fn) : List UInt8 := [102, 117, 110, 99, 32] ++ (Lib.itoa f.seen ++ (thL f.args ++ ([32, 58] ++ (thL f.rets ++ ([32, 58] ++ (thL f.locals ++ ([32, 58] ++ (thL (f.takes.map decB) ++ [10]))))))))
def fnT (f : Fn) : List UInt8 := fnH f ++ codeT f.code
def headT (m : Mod) : List UInt8 := m.records.flatMap recT ++ frT m.friends
def modT (m : Mod) : List UInt8 := headT m ++ m.funcs.flatMap fnT

/-- Whole numbers in range. -/
def Rec.rng (r : Rec) : Prop := inR r.able
def Ins.rng (i : Ins) : Prop := inR i.a ∧ inR i.b
def Fn.rng (f : Fn) : Prop := inR f.seen ∧ (∀ n ∈ f.takes, inR n) ∧ ∀ i ∈ f.code, i.rng
def Mod.rng (m : Mod) : Prop := (∀ r ∈ m.records, r.rng) ∧ (∀ f ∈ m.funcs, f.rng) ∧ ∀ n ∈ m.friends, inR n
theorem inR_of {n : Int} (h : okInt n) : inR n := by
  unfold okInt Lit.wf at h
  simp [IntKind.min, IntKind.max, IntKind.signed, IntKind.bits] at h
  unfold inR; omega

theorem form_ab (op : ByteArray) : 0 < (formV op).b → 0 < (formV op).a := by
  have hall : ∀ f ∈ FORMS, 0 < f.b → 0 < f.a := by decide +kernel
  unfold formV
  cases e : FORMS.find? (fun f => decide (f.op = op)) with
  | none => intro h; exact absurd h (by decide)
  | some f => exact hall f (List.mem_of_find?_eq_some e)
def many (f : Ins) : Int := if f.a = 0 then 0 else if f.b = 0 then 1 else 2
theorem many_a (op : ByteArray) : many (formV op) > 0 ↔ 0 < (formV op).a := by
  have h1 := form_lim op
  have h2 := form_ab op
  unfold many
  split
  · omega
  · split <;> omega
theorem many_b (op : ByteArray) : many (formV op) > 1 ↔ 0 < (formV op).b := by
  have h1 := form_lim op
  have h2 := form_ab op
  unfold many
  split
  · omega
  · split <;> omega
theorem insE_len {i : Ins} (h : i.rng) : (insE i).length ≤ 43 * (1 + wIns i) := by
  have h1 := itoa_len h.1
  have h2 := itoa_len h.2
  have e : i.op.data.toList.length = i.op.size := Array.length_toList
  unfold insE insL wIns
  simp only [List.length_append, e]
  split <;> split <;> simp only [List.length_cons, List.length_nil] <;> omega
theorem recT_len {r : Rec} (h : r.rng) : (recT r).length ≤ 43 * (1 + wRec r) := by
  have h1 := itoa_len h
  unfold recT wRec
  simp only [List.length_append, thL_len, List.length_cons, List.length_nil]
  omega
theorem frT_len {l : List Int} (h : ∀ n ∈ l, inR n) : (frT l).length ≤ 7 + 21 * l.length := by
  have := thL_dec h
  unfold frT
  split
  · simp only [List.length_append, List.length_cons, List.length_nil]; omega
  · simp
theorem codeT_len {l : List Ins} (h : ∀ i ∈ l, i.rng) : (codeT l).length ≤ 43 * wInss l := flat_len fun i hi => insE_len (h i hi)
theorem fnH_len {f : Fn} (h : f.rng) : (fnH f).length ≤ 32 + (wS f.args + wS f.rets + wS f.locals + 21 * f.takes.length) := by
  have h1 := itoa_len h.1
  have h2 := thL_dec h.2.1
  rw [thL_len] at h2
  unfold fnH
  simp only [List.length_append, thL_len, List.length_cons, List.length_nil]
  omega
theorem fnT_len {f : Fn} (h : f.rng) : (fnT f).length ≤ 43 * (1 + wFn f) := by
  have h1 := fnH_len h
  have h2 := codeT_len h.2.2
  unfold fnT wFn
  rw [List.length_append]
  omega
theorem modT_len {m : Mod} (h : m.rng) (hw : wMod m ≤ 1048576) : (m.records.flatMap recT).length ≤ 43 * wRecs m.records ∧ (frT m.friends).length ≤ 7 + 21 * m.friends.length ∧ (m.funcs.flatMap fnT).length ≤ 43 * wFns m.funcs ∧
    wRecs m.records + wFns m.funcs + m.friends.length ≤ 1048576 :=
  ⟨flat_len fun r hr => recT_len (h.1 r hr), frT_len h.2.2, flat_len fun f hf => fnT_len (h.2.1 f hf), hw⟩
theorem rec_w {l : List Rec} {i : Nat} (hi : i < l.length) : wRec (nth l i) ≤ wRecs l := by
  have := le_sum (f := wRec) (List.mem_of_getElem? (nth_at hi)); unfold wRecs; omega
theorem fn_w {l : List Fn} {i : Nat} (hi : i < l.length) : wFn (nth l i) ≤ wFns l := by
  have := le_sum (f := wFn) (List.mem_of_getElem? (nth_at hi)); unfold wFns; omega
theorem ins_w {l : List Ins} {i : Nat} (hi : i < l.length) : wIns (nth l i) ≤ wInss l := by
  have := le_sum (f := wIns) (List.mem_of_getElem? (nth_at hi)); unfold wInss; omega
end Go.Proofs.YtahciphhopiipaaDoor
