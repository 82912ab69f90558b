/- Steps of the texts. -/
import Derived.Test.YtahciphhopiipaaDoorD3
set_option linter.unusedVariables false
set_option linter.unusedSimpArgs false
namespace Go.Proofs.YtahciphhopiipaaDoor
open Go V

theorem bl_nil {l : List UInt8} (h : l = []) : (⟨#[]⟩ : ByteArray) = bl l := by rw [h, bl_eq]
theorem bsz (l : List UInt8) : (⟨l.toArray⟩ : ByteArray).size = l.length := by simp [ByteArray.size]
theorem bdt (l : List UInt8) : (⟨l.toArray⟩ : ByteArray).data.toList = l := rfl
theorem sp1_data : sp1.data.toList = [32] := rfl
theorem nl1_data : nl1.data.toList = [10] := rfl
theorem inR_lo {n : Int} (h : inR n) : -9223372036854775808 ≤ n := h.1
theorem inR_hi {n : Int} (h : inR n) : n ≤ 9223372036854775807 := h.2
theorem wS_length (l : List ByteArray) : l.length ≤ wS l := by unfold wS; omega
theorem wRecs_length (l : List Rec) : l.length ≤ wRecs l := by unfold wRecs; omega
theorem wFns_length (l : List Fn) : l.length ≤ wFns l := by unfold wFns; omega
theorem wInss_length (l : List Ins) : l.length ≤ wInss l := by unfold wInss; omega
theorem wS_take (l : List ByteArray) (i : Nat) : wS (l.take i) ≤ wS l := by
  rw [← thL_len, ← thL_len]; exact flat_le _ l i
theorem wS_at {l : List ByteArray} {i : Nat} (hi : i < l.length) : (nth l i).size ≤ wS l := by
  have := le_sum (f := ByteArray.size) (List.mem_of_getElem? (nth_at hi)); unfold wS; omega
theorem things_succ {l : List ByteArray} {i : Nat} (hi : i < l.length) : (bl (thL (l.take i)) ++ ⟨#[32]⟩) ++ nth l i = bl (thL (l.take (i + 1))) := by
  refine bb ?_
  have := flat_succ (f := fun w : ByteArray => 32 :: w.data.toList) (nth_at hi)
  rw [dapp, dapp, bl_data, bl_data, bdt]
  unfold thL
  rw [← this, List.append_assoc]
  rfl
theorem map_nth {α β : Type} [Inhabited α] (f : α → β) {l : List α} {i : Nat} (hi : i < l.length) : (l.map f)[i]? = some (f (nth l i)) := by rw [List.getElem?_map, nth_at hi]; rfl
theorem numbers_succ {l : List Int} {i : Nat} (hi : i < l.length) : (bl (thL ((l.take i).map decB)) ++ ⟨#[32]⟩) ++ decB (nth l i) = bl (thL ((l.take (i + 1)).map decB)) := by
  have := things_succ (l := l.map decB) (i := i) (by simpa using hi)
  rw [nth_of (map_nth decB hi)] at this
  rw [List.map_take, List.map_take]
  exact this
theorem thL_decTake {l : List Int} (h : ∀ n ∈ l, inR n) (i : Nat) : (thL ((l.take i).map decB)).length ≤ 21 * l.length := by
  have := thL_dec (l := l.take i) fun n hn => h n (List.mem_of_mem_take hn)
  have h2 : (l.take i).length ≤ l.length := by rw [List.length_take]; omega
  omega

/-- A module's text, step by step. -/
theorem rec_done {m : Mod} {i : Nat} (hi : i < m.records.length) :
    (((bl ((m.records.take i).flatMap recT) ++ ⟨#[114, 101, 99, 111, 114, 100, 32]⟩) ++ decB (nth m.records i).able) ++ bl (thL (nth m.records i).fields)) ++ ⟨#[10]⟩ = bl ((m.records.take (i + 1)).flatMap recT) := by
  refine bb ?_
  rw [dapp, dapp, dapp, dapp, bl_data, bl_data, bl_data, bdt, bdt, decB_data, ← flat_succ (nth_at hi)]
  unfold recT
  simp only [List.append_assoc]
theorem head_eq {m : Mod} {i : Nat} (h : m.records.length ≤ i) : headT m ++ (m.funcs.take 0).flatMap fnT = (m.records.take i).flatMap recT ++ frT m.friends := by
  rw [flat_all h, List.take_zero, List.flatMap_nil, List.append_nil]; rfl
theorem head_none {m : Mod} {i : Nat} (h : m.records.length ≤ i) (h0 : ¬ 0 < m.friends.length) : bl ((m.records.take i).flatMap recT) = bl (headT m ++ (m.funcs.take 0).flatMap fnT) := by
  rw [head_eq h]; unfold frT; rw [if_neg h0, List.append_nil]
theorem head_some {m : Mod} {i : Nat} (h : m.records.length ≤ i) (h0 : 0 < m.friends.length) :
    ((bl ((m.records.take i).flatMap recT) ++ ⟨#[102, 114, 105, 101, 110, 100]⟩) ++ bl (thL (m.friends.map decB))) ++ ⟨#[10]⟩ = bl (headT m ++ (m.funcs.take 0).flatMap fnT) := by
  refine bb ?_
  rw [dapp, dapp, dapp, bl_data, bl_data, bl_data, bdt, bdt, head_eq h]
  unfold frT
  rw [if_pos h0]
  simp only [List.append_assoc]
theorem fn_head {m : Mod} {k : Nat} :
    (((((((((bl (headT m ++ (m.funcs.take k).flatMap fnT) ++ ⟨#[102, 117, 110, 99, 32]⟩) ++ decB (nth m.funcs k).seen) ++ bl (thL (nth m.funcs k).args)) ++ ⟨#[32, 58]⟩) ++ bl (thL (nth m.funcs k).rets)) ++ ⟨#[32, 58]⟩) ++ bl (thL (nth m.funcs k).locals)) ++ ⟨#[32, 58]⟩) ++ bl (thL ((nth m.funcs k).takes.map decB))) ++ ⟨#[10]⟩ =
      bl (headT m ++ ((m.funcs.take k).flatMap fnT ++ (fnH (nth m.funcs k) ++ ((nth m.funcs k).code.take 0).flatMap insE))) := by
  refine bb ?_
  simp only [dapp, bl_data, bdt, decB_data, List.take_zero, List.flatMap_nil, List.append_nil]
  unfold fnH
  simp only [List.append_assoc]
theorem ins_done {m : Mod} {k q : Nat} (hq : q < (nth m.funcs k).code.length) :
    (bl (headT m ++ ((m.funcs.take k).flatMap fnT ++ (fnH (nth m.funcs k) ++ ((nth m.funcs k).code.take q).flatMap insE))) ++ bl (insL (nth (nth m.funcs k).code q))) ++ ⟨#[10]⟩ =
      bl (headT m ++ ((m.funcs.take k).flatMap fnT ++ (fnH (nth m.funcs k) ++ ((nth m.funcs k).code.take (q + 1)).flatMap insE))) := by
  refine bb ?_
  rw [dapp, dapp, bl_data, bl_data, bl_data, bdt, ← flat_succ (nth_at hq)]
  unfold insE
  simp only [List.append_assoc]
theorem fn_done {m : Mod} {k q : Nat} (hk : k < m.funcs.length) (hq : (nth m.funcs k).code.length ≤ q) :
    bl (headT m ++ ((m.funcs.take k).flatMap fnT ++ (fnH (nth m.funcs k) ++ ((nth m.funcs k).code.take q).flatMap insE))) = bl (headT m ++ (m.funcs.take (k + 1)).flatMap fnT) := by
  rw [flat_all hq, ← flat_succ (nth_at hk)]; rfl
theorem nl_app (x : ByteArray) (w : ByteArray) (ws : List ByteArray) : (x ++ (joinB (w :: ws) sp1 ++ nl1)).data.toList = x.data.toList ++ (w.data.toList ++ (thL ws ++ [10])) := by
  rw [dapp, dapp, joinB_cons, nl1_data, List.append_assoc]
theorem rec_line {m : Mod} {i : Nat} (hi : i < m.records.length) :
    bl ((m.records.take i).flatMap recT) ++ (joinB ((⟨#[114, 101, 99, 111, 114, 100]⟩ : ByteArray) :: decB (nth m.records i).able :: (nth m.records i).fields) sp1 ++ nl1) = bl ((m.records.take (i + 1)).flatMap recT) := by
  refine bb ?_
  rw [nl_app, bl_data, bl_data, thL_cons, ← flat_succ (nth_at hi), decB_data]
  unfold recT
  simp [List.append_assoc]
theorem friend_line {m : Mod} {i : Nat} (h : m.records.length ≤ i) (h0 : 0 < m.friends.length) :
    bl ((m.records.take i).flatMap recT) ++ (joinB ((⟨#[102, 114, 105, 101, 110, 100]⟩ : ByteArray) :: m.friends.map decB) sp1 ++ nl1) = bl (headT m ++ (m.funcs.take 0).flatMap fnT) := by
  refine bb ?_
  rw [nl_app, bl_data, bl_data, head_eq h]
  unfold frT
  rw [if_pos h0]
theorem fn_line {m : Mod} {k : Nat} :
    bl (headT m ++ (m.funcs.take k).flatMap fnT) ++ (joinB ((⟨#[102, 117, 110, 99]⟩ : ByteArray) :: decB (nth m.funcs k).seen :: (((((((nth m.funcs k).args ++ [⟨#[58]⟩]) ++ (nth m.funcs k).rets) ++ [⟨#[58]⟩]) ++ (nth m.funcs k).locals) ++ [⟨#[58]⟩]) ++ (nth m.funcs k).takes.map decB)) sp1 ++ nl1) =
      bl (headT m ++ ((m.funcs.take k).flatMap fnT ++ (fnH (nth m.funcs k) ++ ((nth m.funcs k).code.take 0).flatMap insE))) := by
  refine bb ?_
  rw [nl_app, bl_data, bl_data]
  simp only [thL_cons, thL_app, thL_nil, decB_data, List.take_zero, List.flatMap_nil, List.append_nil]
  unfold fnH
  simp [List.append_assoc]
theorem ins_line {m : Mod} {k q : Nat} (hq : q < (nth m.funcs k).code.length) :
    bl (headT m ++ ((m.funcs.take k).flatMap fnT ++ (fnH (nth m.funcs k) ++ ((nth m.funcs k).code.take q).flatMap insE))) ++ (joinB [bl (insL (nth (nth m.funcs k).code q))] sp1 ++ nl1) =
      bl (headT m ++ ((m.funcs.take k).flatMap fnT ++ (fnH (nth m.funcs k) ++ ((nth m.funcs k).code.take (q + 1)).flatMap insE))) := by
  refine bb ?_
  rw [nl_app, bl_data, bl_data, bl_data, ← flat_succ (nth_at hq), thL_nil]
  unfold insE
  simp [List.append_assoc]
theorem app_one (l : List ByteArray) (c : ByteArray) : l.map rS ++ [[.str c]] = (l ++ [c]).map rS := by rw [List.map_append]; rfl
theorem app_all (a b : List ByteArray) : a.map rS ++ b.map rS = (a ++ b).map rS := by rw [List.map_append]
/-- What was read is bounded, its whole numbers in range. -/
def Rec.okr (r : Rec) : Prop := r.ok ∧ r.rng
def Ins.okr (i : Ins) : Prop := i.ok ∧ i.rng
def Fn.okr (f : Fn) : Prop := f.ok ∧ f.rng
def Mod.okr (m : Mod) : Prop := m.ok ∧ m.rng
theorem okL_mono {α : Type} {p q : α → Prop} {l : List α} (h : okL p l) (hq : ∀ x, p x → q x) : okL q l := ⟨h.1, fun x hx => hq x (h.2 x hx)⟩
theorem okRecr {n : Int} {l : List ByteArray} (h1 : okInt n) (h2 : okL okStr l) : (Rec.mk n l).okr := ⟨okRec h1 h2, inR_of h1⟩
theorem okInsr {s : ByteArray} {a b : Int} (h1 : okStr s) (h2 : okInt a) (h3 : okInt b) : (Ins.mk s a b).okr := ⟨okIns h1 h2 h3, inR_of h2, inR_of h3⟩
theorem okFnr {n : Int} {a b c : List ByteArray} {d : List Int} {e : List Ins} (h1 : okInt n) (h2 : okL okStr a) (h3 : okL okStr b) (h4 : okL okStr c) (h5 : okL okInt d) (h6 : okL Ins.okr e) : (Fn.mk n a b c d e).okr :=
  ⟨okFn h1 h2 h3 h4 h5 (okL_mono h6 fun _ h => h.1), inR_of h1, fun n hn => inR_of (h5.2 n hn), fun i hi => (h6.2 i hi).2⟩
theorem okModr {a : List Rec} {b : List Fn} {c : List Int} (h1 : okL Rec.okr a) (h2 : okL Fn.okr b) (h3 : okL okInt c) : (Mod.mk a b c).okr :=
  ⟨okMod (okL_mono h1 fun _ h => h.1) (okL_mono h2 fun _ h => h.1) h3, fun r hr => (h1.2 r hr).2, fun f hf => (h2.2 f hf).2, fun n hn => inR_of (h3.2 n hn)⟩
end Go.Proofs.YtahciphhopiipaaDoor
