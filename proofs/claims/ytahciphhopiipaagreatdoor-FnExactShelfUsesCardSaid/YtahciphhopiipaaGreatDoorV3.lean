/- One operation at a time: numbers, truths, texts; lengths, elements, cuts of data. -/
import Derived.Test.YtahciphhopiipaaGreatDoorV2
import Derived.Laws.Slices
import Derived.WalkKit
import Derived.Laws.StructEq
set_option linter.unusedVariables false
set_option linter.unusedSimpArgs false
namespace Go.Proofs.YtahciphhopiipaaGreatDoor.V
open Go

/-- A value that is no memory. -/
def SV.val : SV → Option Value
  | .int k n => some (.int k n)
  | .bool b => some (.bool b)
  | .str s => some (.string s)
  | _ => Option.none

theorem SRep.of_val {S : Nat → Prop} {w : World} {x : SV} {v : Value} (h : x.val = some v) : SRep S w v x := by
  cases x <;> simp [SV.val] at h <;> subst h
  · exact .int _ _
  · exact .bool _
  · exact .str _

/-- An operation that gives a scalar. -/
theorem step_val {P : Program} {E : Env} {o : Oper} {σ : St} (d : Nat) (x : SV) (v : Value) (hv : x.val = some v) (hd : o.dst = some d) (hn : d < E.n)
    (hrun : ∀ g w a, Rel E g w a σ → (execOp a.eval o).run P w = .ok (.value v) w) : Step P E o σ (· = upd σ (tk d) (.im x)) :=
  Step.of_run fun g w a h => ⟨v, w, drop (tk d) g, _, .inl (hrun g w a h), rfl, by rw [hd]; exact h.set d _ _ hn fun g' hg' => SRep.of_val hv⟩

/-- What two whole numbers come to. -/
def intOp : BinOp → IntKind → Int → Int → Option SV
  | .add, k, a, b => some (.int k (k.wrap (a + b)))
  | .sub, k, a, b => some (.int k (k.wrap (a - b)))
  | .mul, k, a, b => some (.int k (k.wrap (a * b)))
  | .quo, k, a, b => if b = 0 then none else some (.int k (k.wrap (a.tdiv b)))
  | .rem, k, a, b => if b = 0 then none else some (.int k (a.tmod b))
  | .eql, _, a, b => some (.bool (decide (a = b)))
  | .neq, _, a, b => some (.bool (decide (a ≠ b)))
  | .lss, _, a, b => some (.bool (decide (a < b)))
  | .leq, _, a, b => some (.bool (decide (a ≤ b)))
  | .gtr, _, a, b => some (.bool (decide (a > b)))
  | .geq, _, a, b => some (.bool (decide (a ≥ b)))
  | .and, k, a, b => some (.int k (k.wrap (BitVec.ofInt k.bits a &&& BitVec.ofInt k.bits b).toNat))
  | .or, k, a, b => some (.int k (k.wrap (BitVec.ofInt k.bits a ||| BitVec.ofInt k.bits b).toNat))
  | .xor, k, a, b => some (.int k (k.wrap (BitVec.ofInt k.bits a ^^^ BitVec.ofInt k.bits b).toNat))
  | .andNot, k, a, b => some (.int k (k.wrap (BitVec.ofInt k.bits a &&& ~~~BitVec.ofInt k.bits b).toNat))
  | _, _, _, _ => none

/-- A value of no interface and no struct. -/
def plainV : Value → Bool
  | .int .. | .string _ | .bool _ | .pointer _ | .slice .. => true
  | _ => false

theorem run_eqGuard_plain {P : Program} {w : World} (op : BinOp) (t : TypeId) (x y : Operand) (a b : Value) (ha : plainV a = true) :
    (eqGuard op t x y a b).run P w = .ok () w := by
  cases a <;> first | (cases ha; done) | (cases op <;> cases b <;> rfl)

theorem beq_eq_decide_int (a b : Int) : (a == b) = decide (a = b) := by
  by_cases h : a = b <;> simp [h]

theorem run_intOp {P : Program} {w : World} {op : BinOp} {k : IntKind} {a b : Int} {r : SV} {v : Value} (t : TypeId) (h : intOp op k a b = some r) (hv : r.val = some v) :
    (binOp op t (.int k a) (.int k b)).run P w = .ok v w := by
  cases op <;> simp [intOp] at h <;> first
    | (subst h; simp [SV.val] at hv; subst hv; simp [binOp, Op.intArith, Op.intCmp, Op.intBits, beq_eq_decide_int, bne]; done)
    | (obtain ⟨h0, rfl⟩ := h; simp [SV.val] at hv; subst hv; simp [binOp, Op.intDiv, h0])

theorem step_int {P : Program} {E : Env} {o : Oper} {σ : St} (d : Nat) (op : BinOp) (t t' : TypeId) (x y : Operand) (k : IntKind) (a b : Int) (r r' : SV) (v : Value) {s1 s2 : Bool}
    (ho : o.op = .binOp op t x y t') (hd : o.dst = some d) (hn : d < E.n) (hx : opd σ x = .lf (.im s1 (.int k a))) (hy : opd σ y = .lf (.im s2 (.int k b)))
    (hr : intOp op k a b = some r) (hr' : r = r') (hv : r'.val = some v) : Step P E o σ (· = upd σ (tk d) (.im r')) := by
  subst hr'
  refine step_val d r v hv hd hn fun g w a' h => ?_
  have h1 := opd_int h hx
  have h2 := opd_int h hy
  simp only [execOp, ho, h1, h2]
  have e1 := run_eqGuard_plain (P := P) (w := w) op t x y (.int k a) (.int k b) rfl
  have e2 := run_intOp (P := P) (w := w) t hr hv
  simp [e1, e2]

def boolOp : BinOp → Bool → Bool → Option Bool
  | .eql, a, b => some (a == b)
  | .neq, a, b => some (a != b)
  | _, _, _ => none

/-- What two texts come to. -/
def strOp : BinOp → ByteArray → ByteArray → Option SV
  | .add, a, b => if ((a.size + b.size : Nat) : Int) > IntKind.i64.max then none else some (.str (a ++ b))
  | .eql, a, b => some (.bool (a.toList == b.toList))
  | .neq, a, b => some (.bool !(a.toList == b.toList))
  | .lss, a, b => some (.bool (Op.bytesLess a.toList b.toList))
  | .leq, a, b => some (.bool (Op.bytesLess a.toList b.toList || a.toList == b.toList))
  | .gtr, a, b => some (.bool !(Op.bytesLess a.toList b.toList || a.toList == b.toList))
  | .geq, a, b => some (.bool !(Op.bytesLess a.toList b.toList))
  | _, _, _ => none

theorem run_strOp {P : Program} {w : World} {op : BinOp} {a b : ByteArray} {r : SV} {v : Value} (t : TypeId) (h : strOp op a b = some r) (hv : r.val = some v) :
    (binOp op t (.string a) (.string b)).run P w = .ok v w := by
  cases op <;> simp only [strOp, Option.some.injEq, reduceCtorEq] at h
  case add =>
    split at h
    · cases h
    · cases h; simp only [SV.val, Option.some.injEq] at hv; subst hv; rename_i hle
      simp only [binOp, Op.stringOp]; rw [if_neg hle]; rfl
  all_goals (subst h; simp only [SV.val, Option.some.injEq] at hv; subst hv; rfl)

theorem step_str {P : Program} {E : Env} {o : Oper} {σ : St} (d : Nat) (op : BinOp) (t t' : TypeId) (x y : Operand) (a b : ByteArray) (r r' : SV) (v : Value) {s1 s2 : Bool}
    (ho : o.op = .binOp op t x y t') (hd : o.dst = some d) (hn : d < E.n) (hx : opd σ x = .lf (.im s1 (.str a))) (hy : opd σ y = .lf (.im s2 (.str b)))
    (hr : strOp op a b = some r) (hr' : r = r') (hv : r'.val = some v) : Step P E o σ (· = upd σ (tk d) (.im r')) := by
  subst hr'
  refine step_val d r v hv hd hn fun g w a' h => ?_
  have h1 := opd_str h hx
  have h2 := opd_str h hy
  simp only [execOp, ho, h1, h2]
  have e1 := run_eqGuard_plain (P := P) (w := w) op t x y (.string a) (.string b) rfl
  have e2 := run_strOp (P := P) (w := w) t hr hv
  simp [e1, e2]

theorem run_binOp_bool {P : Program} {w : World} (op : BinOp) (t : TypeId) (ht : P.underlying t = some .bool) (a b r : Bool) (h : boolOp op a b = some r) : (binOp op t (.bool a) (.bool b)).run P w = .ok (.bool r) w := by
  have e := run_equalIn_bool' (P := P) (w := w) 9999 t a b ht
  cases op <;> simp [boolOp] at h <;> subst h <;> simp [binOp, Op.equal, Op.maxDepth, e, bne]

theorem step_bool {P : Program} {E : Env} {o : Oper} {σ : St} (d : Nat) (op : BinOp) (t t' : TypeId) (ht : P.underlying t = some .bool) (x y : Operand) (a b r : Bool) {s1 s2 : Bool}
    (ho : o.op = .binOp op t x y t') (hd : o.dst = some d) (hn : d < E.n) (hx : opd σ x = .lf (.im s1 (.bool a))) (hy : opd σ y = .lf (.im s2 (.bool b)))
    (hr : boolOp op a b = some r) : Step P E o σ (· = upd σ (tk d) (.bool r)) := by
  refine step_val d (.bool r) (.bool r) rfl hd hn fun g w a' h => ?_
  have h1 := opd_bool h hx
  have h2 := opd_bool h hy
  simp only [execOp, ho, h1, h2]
  have e1 := run_eqGuard_plain (P := P) (w := w) op t x y (.bool a) (.bool b) rfl
  have e2 := run_binOp_bool (P := P) (w := w) op t ht a b r hr
  simp [e1, e2]

theorem step_not {P : Program} {E : Env} {o : Oper} {σ : St} (d : Nat) (t : TypeId) (x : Operand) (a : Bool) {s1 : Bool}
    (ho : o.op = .unOp .not t x) (hd : o.dst = some d) (hn : d < E.n) (hx : opd σ x = .lf (.im s1 (.bool a))) : Step P E o σ (· = upd σ (tk d) (.bool !a)) := by
  refine step_val d (.bool !a) (.bool !a) rfl hd hn fun g w a' h => ?_
  simp [execOp, ho, opd_bool h hx, Op.unary]

theorem step_neg {P : Program} {E : Env} {o : Oper} {σ : St} (d : Nat) (t : TypeId) (x : Operand) (k : IntKind) (n m : Int) {s1 : Bool}
    (ho : o.op = .unOp .neg t x) (hd : o.dst = some d) (hn : d < E.n) (hx : opd σ x = .lf (.im s1 (.int k n))) (hm : k.wrap (0 - n) = m) : Step P E o σ (· = upd σ (tk d) (.im (.int k m))) := by
  refine step_val d (.int k m) (.int k m) rfl hd hn fun g w a' h => ?_
  subst hm
  simp [execOp, ho, opd_int h hx, Op.unary, Op.intArith]

theorem step_convert_int {P : Program} {E : Env} {o : Oper} {σ : St} (d : Nat) (t t' : TypeId) (k k' : IntKind) (ds : TypeDesc) (x : Operand) (n m : Int) {s1 : Bool}
    (ho : o.op = .convert t t' x) (hd : o.dst = some d) (hn : d < E.n) (ht : P.underlying t = some ds) (ht' : P.underlying t' = some (.int k')) (hx : opd σ x = .lf (.im s1 (.int k n))) (hm : k'.wrap n = m) :
    Step P E o σ (· = upd σ (tk d) (.im (.int k' m))) := by
  refine step_val d (.int k' m) (.int k' m) rfl hd hn fun g w a' h => ?_
  subst hm
  simp [execOp, ho, opd_int h hx, convert, run_underlying ht, run_underlying ht', Conv.intToInt]
end Go.Proofs.YtahciphhopiipaaGreatDoor.V
