/- One operation at a time: lengths, elements and cuts of data and of texts. -/
import Derived.Test.YtahciphhopiipaaGreatDoorV3
set_option linter.unusedVariables false
set_option linter.unusedSimpArgs false
namespace Go.Proofs.YtahciphhopiipaaGreatDoor.V
open Go

theorem run_sizeOf {P : Program} {w : World} {e sz : Nat} (h : (P.info? e).map (·.size) = some sz) : (sizeOf e).run P w = .ok sz w := by
  cases hi : P.info? e with
  | none => rw [hi] at h; cases h
  | some i => rw [hi] at h; cases h; simp [sizeOf, typeInfo, hi]

/-- A value of data that is a slice. -/
theorem SRep.slice_form {S : Nat → Prop} {w : World} {v : Value} {sz : Nat} {rows : List (List SV)} (h : SRep S w v (.sl sz rows)) :
    ∃ a n cap, v = .slice a n cap ∧ n = rows.length ∧ n ≤ cap := by
  generalize hx : SV.sl sz rows = x at h
  cases h with
  | nil sz' a cap => cases hx; exact ⟨a, 0, cap, rfl, rfl, Nat.zero_le _⟩
  | sl b off n cap sz' rows' cv hn hc hw hS hcell hrep => cases hx; exact ⟨_, n, cap, rfl, hn, hc⟩
  | _ => cases hx

theorem SRep.width {S : Nat → Prop} {w : World} {v : Value} {sz : Nat} {rows : List (List SV)} (h : SRep S w v (.sl sz rows)) : ∀ r ∈ rows, r.length = sz := by
  generalize hx : SV.sl sz rows = x at h
  cases h with
  | nil sz' a cap => cases hx; intro r hr; cases hr
  | sl b off n cap sz' rows' cv hn hc hw hS hcell hrep => cases hx; exact hw
  | _ => cases hx

theorem Addr.add_flat (b off n : Nat) : (⟨b, off, none⟩ : Addr).add n = ⟨b, off + n, none⟩ := by
  unfold Addr.add; split
  · rename_i h; subst h; rfl
  · rfl

/-- A row of data in memory. -/
theorem SRep.row {S : Nat → Prop} {w : World} {a : Option Addr} {n cap sz : Nat} {rows : List (List SV)} (h : SRep S w (.slice a n cap) (.sl sz rows)) {i : Nat} {r : List SV} (hr : rows[i]? = some r) :
    ∃ b off, a = some ⟨b, off, none⟩ ∧ S b ∧ r.length = sz ∧ ∀ j x, r[j]? = some x → ∃ y, w.cell? ⟨b, off + i * sz + j, none⟩ = some y ∧ SRep S w y x := by
  generalize hx : SV.sl sz rows = x at h
  cases h with
  | nil sz' a cap => cases hx; simp at hr
  | sl b off n cap sz' rows' cv hn hc hw hS hcell hrep =>
    cases hx
    refine ⟨b, off, rfl, hS, hw r (List.mem_of_getElem? hr), fun j x hj => ⟨_, ?_, hrep i r j x hr hj⟩⟩
    rw [Nat.add_assoc]; exact hcell i r j x hr hj
  | _ => cases hx

theorem SRep.cut {S : Nat → Prop} {w : World} {a : Option Addr} {n cap sz : Nat} {rows : List (List SV)} (h : SRep S w (.slice a n cap) (.sl sz rows)) (l hh m : Nat)
    (h1 : l ≤ hh) (h2 : hh ≤ n) (h3 : hh ≤ m) (h4 : m ≤ cap) : SRep S w (sliced a l hh m sz) (.sl sz ((rows.take hh).drop l)) := by
  generalize hx : SV.sl sz rows = x at h
  cases h with
  | nil sz' a cap =>
    cases hx
    obtain rfl : hh = 0 := by omega
    obtain rfl : l = 0 := by omega
    simp only [List.take_nil, List.drop_nil, sliced]
    exact .nil _ _ _
  | sl b off n cap sz' rows' cv hn hc hw hS hcell hrep =>
    cases hx
    by_cases e : l = hh
    · subst e
      rw [List.drop_of_length_le (by simp; omega)]
      simp only [sliced, Nat.sub_self]
      exact .nil _ _ _
    · have hml : ¬ m = l := by omega
      simp only [sliced, if_neg hml, Option.map_some, Addr.add_flat]
      refine .sl b (off + l * sz) (hh - l) (m - l) sz _ (fun j => cv (l * sz + j)) (by simp; omega) (by omega) (fun r hr => hw r (List.mem_of_mem_take (List.mem_of_mem_drop hr))) hS ?_ ?_
      · intro i r j x hi hj
        rw [List.getElem?_drop] at hi
        have hi' : rows[l + i]? = some r := by
          rw [List.getElem?_take] at hi
          split at hi
          · exact hi
          · cases hi
        have := hcell (l + i) r j x hi' hj
        rw [Nat.add_mul] at this
        rw [show off + l * sz + (i * sz + j) = off + (l * sz + i * sz + j) from by omega, show l * sz + (i * sz + j) = l * sz + i * sz + j from by omega]
        exact this
      · intro i r j x hi hj
        rw [List.getElem?_drop] at hi
        have hi' : rows[l + i]? = some r := by
          rw [List.getElem?_take] at hi
          split at hi
          · exact hi
          · cases hi
        have := hrep (l + i) r j x hi' hj
        rw [Nat.add_mul] at this
        rw [show l * sz + (i * sz + j) = l * sz + i * sz + j from by omega]
        exact this
  | _ => cases hx

/-- How long what a leaf holds is. -/
def Leaf.len : Leaf → Option Nat
  | .im _ (.sl _ rows) => some rows.length
  | .u _ _ _ _ rows => some rows.length
  | .hd _ n _ => some n
  | .nil => some 0
  | _ => Option.none

theorem step_len {P : Program} {E : Env} {o : Oper} {σ : St} (d : Nat) (t e : TypeId) (x : Operand) (l : Leaf) (n : Nat)
    (ho : o.op = .call { callee := .builtin .len, args := #[x], argTypes := #[t] }) (hd : o.dst = some d) (hn : d < E.n) (ht : P.underlying t = some (.slice e)) (hx : opd σ x = .lf l)
    (hl : l.len = some n) : Step P E o σ (· = upd σ (tk d) (.int n)) := by
  refine step_val d (.int .i64 n) (.int .i64 n) rfl hd hn fun g w a h => ?_
  have hr := opd_rel h x
  rw [hx] at hr
  have hr' : LeafRel g w (opk x) 0 0 (a.eval x) l := hr
  have : ∃ ad cap, a.eval x = .slice ad n cap := by
    cases l with
    | im sh v =>
      cases v with
      | sl sz rows => cases hl; obtain ⟨ad, m, cap, e1, e2, _⟩ := SRep.slice_form hr'; exact ⟨ad, cap, by rw [e1, e2]⟩
      | _ => cases hl
    | u b c e sz rows => cases hl; exact ⟨_, c, hr'.1⟩
    | hd b n c => cases hl; exact ⟨_, c, hr'⟩
    | nil => cases hl; exact ⟨Option.none, 0, hr'⟩
    | _ => cases hl
  obtain ⟨ad, cap, e1⟩ := this
  simp [execOp, ho, resolve, invoke, builtin, Builtin.len_, e1, run_underlying ht, goInt]

theorem step_len_str {P : Program} {E : Env} {o : Oper} {σ : St} (d : Nat) (t : TypeId) (x : Operand) (s : ByteArray) {sh : Bool}
    (ho : o.op = .call { callee := .builtin .len, args := #[x], argTypes := #[t] }) (hd : o.dst = some d) (hn : d < E.n) (ht : P.underlying t = some .string) (hx : opd σ x = .lf (.im sh (.str s))) :
    Step P E o σ (· = upd σ (tk d) (.int s.size)) := by
  refine step_val d (.int .i64 s.size) (.int .i64 s.size) rfl hd hn fun g w a h => ?_
  simp [execOp, ho, resolve, invoke, builtin, Builtin.len_, opd_str h hx, run_underlying ht, goInt]

theorem step_index_str {P : Program} {E : Env} {o : Oper} {σ : St} (d : Nat) (t : TypeId) (x y : Operand) (s : ByteArray) (k : IntKind) (i : Int) (c : UInt8) {s1 s2 : Bool}
    (ho : o.op = .index t x y) (hd : o.dst = some d) (hn : d < E.n) (ht : P.underlying t = some .string) (hx : opd σ x = .lf (.im s1 (.str s))) (hy : opd σ y = .lf (.im s2 (.int k i)))
    (h0 : 0 ≤ i) (hc : s.data.toList[i.toNat]? = some c) : Step P E o σ (· = upd σ (tk d) (.im (.int .u8 c.toNat))) := by
  refine step_val d (.int .u8 c.toNat) (.int .u8 c.toNat) rfl hd hn fun g w a h => ?_
  have hlt : i.toNat < s.size := by
    have := List.getElem?_eq_some_iff.1 hc
    obtain ⟨h1, _⟩ := this
    simpa using h1
  have hcc : s[i.toNat]'hlt = c := by
    obtain ⟨h1, h2⟩ := List.getElem?_eq_some_iff.1 hc
    rw [← h2]; rfl
  simp only [execOp, ho, opd_str h hx, opd_int h hy]
  rw [Sem.run_bind, run_index_string w t s k i ht, dif_pos ⟨h0, by omega⟩, hcc]
  rfl

/-- The address of an element of data. -/
theorem step_indexAddr {P : Program} {E : Env} {o : Oper} {σ : St} (d : Nat) (t e : TypeId) (sz : Nat) (x y : Operand) (rows : List (List SV)) (k : IntKind) (i : Int) (r : List SV) {s1 s2 : Bool}
    (ho : o.op = .indexAddr t x y) (hd : o.dst = some d) (hn : d < E.n) (ht : P.underlying t = some (.slice e)) (hz : (P.info? e).map (·.size) = some sz)
    (hx : opd σ x = .lf (.im s1 (.sl sz rows))) (hy : opd σ y = .lf (.im s2 (.int k i))) (h0 : 0 ≤ i) (hr : rows[i.toNat]? = some r) :
    Step P E o σ (· = upd σ (tk d) (.lf (.sref s1 r))) := by
  refine Step.of_run fun g w a h => ?_
  have hx' := opd_im h hx
  obtain ⟨ad, n, cap, e1, e2, hcap⟩ := SRep.slice_form hx'
  rw [e1] at hx'
  obtain ⟨b, off, rfl, hS, hlen, hcell⟩ := hx'.row hr
  refine ⟨.pointer (some ⟨b, off + i.toNat * sz, none⟩), w, drop (tk d) g, _, .inl ?_, rfl, ?_⟩
  · have hlt : i.toNat < rows.length := (List.getElem?_eq_some_iff.1 hr).1
    have hlt' : i < (n : Int) := by omega
    simp only [execOp, ho, e1, opd_int h hy]
    simp [Instr.indexAt, asIntOf, run_underlying ht, h0, hlt', run_sizeOf hz, Addr.add_flat]
  · rw [hd]
    refine h.set d _ _ hn fun g' hg' => ?_
    exact ⟨b, off + i.toNat * sz, rfl, fun _ => hg' _ _ hS, fun j x hj => let ⟨y, hy1, hy2⟩ := hcell j x hj; ⟨y, hy1, hy2.mono (fun _ _ => rfl) (fun b hb => hg' _ _ hb)⟩⟩

/-- The address of a field of data. -/
theorem step_field_sref {P : Program} {E : Env} {o : Oper} {σ : St} (d : Nat) (t : TypeId) (fs : Array Field) (f : Field) (j sz : Nat) (x : Operand) (r : List SV) {s1 : Bool}
    (ho : o.op = .fieldAddr t x j) (hd : o.dst = some d) (hn : d < E.n) (ht : P.underlying t = some (.struct fs)) (hf : fs[j]? = some f) (hz : (P.info? f.type).map (·.size) = some sz) (hsz : 0 < sz)
    (hx : opd σ x = .lf (.sref s1 r)) (hoff : f.offset ≤ r.length) : Step P E o σ (· = upd σ (tk d) (.lf (.sref s1 (r.drop f.offset)))) := by
  refine Step.of_run fun g w a h => ?_
  have hr := opd_rel h x
  rw [hx] at hr
  obtain ⟨b, off, e1, hS, hcell⟩ := hr
  refine ⟨.pointer (some ⟨b, off + f.offset, none⟩), w, drop (tk d) g, _, .inl ?_, rfl, ?_⟩
  · simp only [execOp, ho, e1]
    simp [Instr.fieldAt, run_underlying ht, hf, Instr.sureAddr, fieldPlace, run_sizeOf hz, Nat.ne_of_gt hsz, Addr.add_flat]
  · rw [hd]
    refine h.set d _ _ hn fun g' hg' => ?_
    refine ⟨b, off + f.offset, rfl, fun hne => hg' _ _ (hS fun e => hne (by rw [e, List.drop_nil])), fun i x hi => ?_⟩
    rw [List.getElem?_drop] at hi
    obtain ⟨y, hy1, hy2⟩ := hcell _ x hi
    exact ⟨y, by rw [Nat.add_assoc]; exact hy1, hy2.mono (fun _ _ => rfl) (fun b hb => hg' _ _ hb)⟩
end Go.Proofs.YtahciphhopiipaaGreatDoor.V
