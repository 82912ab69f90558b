/- Kinds by value: what a text names, when records, functions, shelves have the shape. -/
import Derived.Test.YtahciphhopiipaaGreatDoorD0
set_option linter.unusedVariables false
set_option linter.unusedSimpArgs false
namespace Go.Proofs.YtahciphhopiipaaGreatDoor
open Go Go.RowKit V

/-- An element, by a total reading. -/
def nth {α : Type} [Inhabited α] (l : List α) (i : Nat) : α := (l[i]?).getD default
theorem nth_at {α : Type} [Inhabited α] {l : List α} {i : Nat} (h : i < l.length) : l[i]? = some (nth l i) := by
  unfold nth; rw [List.getElem?_eq_getElem h]; rfl
theorem nth_of {α : Type} [Inhabited α] {l : List α} {i : Nat} {x : α} (h : l[i]? = some x) : nth l i = x := by unfold nth; rw [h]; rfl
theorem nth_map {α β : Type} [Inhabited α] [Inhabited β] {f : α → β} {l : List α} {i : Nat} (h : i < l.length) : nth (l.map f) i = f (nth l i) :=
  nth_of (by rw [List.getElem?_map, nth_at h]; rfl)
theorem nth_take {α : Type} [Inhabited α] {l : List α} {i n : Nat} (h : i < n) : nth (l.take n) i = nth l i := by
  unfold nth; rw [List.getElem?_take, if_pos h]
theorem nth_mem {α : Type} [Inhabited α] {l : List α} {i : Nat} (h : i < l.length) : nth l i ∈ l := List.mem_of_getElem? (nth_at h)
def bt (t : ByteArray) (i : Nat) : UInt8 := nth t.data.toList i
theorem bt_ib {t : ByteArray} {i : Nat} (h : i < t.size) : AllP [0 ≤ ((i : Nat) : Int), t.data.toList[((i : Nat) : Int).toNat]? = some (bt t i)] :=
  ib (nth_at (by rw [Array.length_toList]; exact h))
theorem bt_lt (t : ByteArray) (i : Nat) : (bt t i).toNat < 256 := (bt t i).toNat_lt
theorem cutTo {α : Type} {f : α → List SV} {l : List α} {sz h : Nat} {hi : Int} (e : hi = ((h : Nat) : Int)) (hh : h ≤ l.length) :
    AllP [AllP [(0 : Nat) = 0], AllP [hi = ((h : Nat) : Int)], 0 ≤ h, h ≤ (l.map f).length, (.lf (.im true (.sl sz (((l.map f).take h).drop 0))) : Slot) = .lf (.im true (.sl sz ((l.take h).map f)))] :=
  ⟨a1 rfl, a1 e, Nat.zero_le _, by simpa using hh, by rw [List.drop_zero, List.map_take], trivial⟩
/-- Bits. -/
def andC (a b : Int) : Int := IntKind.i64.wrap (BitVec.ofInt IntKind.i64.bits a &&& BitVec.ofInt IntKind.i64.bits b).toNat
def andNotC (a b : Int) : Int := IntKind.i64.wrap (BitVec.ofInt IntKind.i64.bits a &&& ~~~BitVec.ofInt IntKind.i64.bits b).toNat
theorem andI_ex : ∃ f : Int → Int → Int, ∀ a b, f a b = andC a b := ⟨_, fun _ _ => rfl⟩
theorem andNotI_ex : ∃ f : Int → Int → Int, ∀ a b, f a b = andNotC a b := ⟨_, fun _ _ => rfl⟩
/-- The same, where the kernel does not look into it. -/
noncomputable def andI : Int → Int → Int := Classical.choose andI_ex
noncomputable def andNotI : Int → Int → Int := Classical.choose andNotI_ex
theorem andI_eq (a b : Int) : andI a b = andC a b := Classical.choose_spec andI_ex a b
theorem andNotI_eq (a b : Int) : andNotI a b = andNotC a b := Classical.choose_spec andNotI_ex a b
theorem andI_n (a b : Int) : AllP [NumOp .and .i64 a b (andI a b)] := a1 ⟨by rw [andI_eq]; rfl⟩
theorem andNotI_n (a b : Int) : AllP [NumOp .andNot .i64 a b (andNotI a b)] := a1 ⟨by rw [andNotI_eq]; rfl⟩
def quoI (a b : Int) : Int := IntKind.i64.wrap (a.tdiv b)
def remI (a b : Int) : Int := a.tmod b
theorem bytes_toList_eq (a b : ByteArray) : (a.toList == b.toList) = decide (a = b) := by
  rw [Bool.eq_iff_iff, bytes_eq, decide_eq_true_iff]
theorem size_pos {t : ByteArray} (h : (!(t.toList == (⟨#[]⟩ : ByteArray).toList)) = true) : 0 < t.size := by
  rcases Nat.eq_zero_or_pos t.size with h0 | h0
  · exfalso
    have e : t = ⟨#[]⟩ := ByteArray.ext (Array.eq_empty_of_size_eq_zero h0)
    subst e
    simp at h
  · exact h0
theorem size_zero {t : ByteArray} (h : (!(t.toList == (⟨#[]⟩ : ByteArray).toList)) = false) : t.size = 0 := by
  have h1 : (t.toList == (⟨#[]⟩ : ByteArray).toList) = true := by simpa using h
  rw [bytes_eq] at h1
  subst h1; rfl
/-- What a text of one byte is. -/
theorem one_byte {t : ByteArray} {c : UInt8} : t = ⟨#[c]⟩ ↔ t.size = 1 ∧ bt t 0 = c := by
  constructor
  · rintro rfl; exact ⟨rfl, rfl⟩
  · rintro ⟨h1, h2⟩
    have hs : t.data.size = 1 := h1
    have h3 := nth_at (l := t.data.toList) (i := 0) (by rw [Array.length_toList, hs]; decide)
    have h4 : t.data.toList = [c] := by
      match hd : t.data.toList, h3 with
      | [], h3 => simp at h3
      | [x], h3 =>
        have e : x = nth [x] 0 := rfl
        unfold bt at h2; rw [hd] at h2; rw [e, h2]
      | x :: y :: r, h3 =>
        have := congrArg List.length hd
        rw [Array.length_toList] at this
        simp at this; omega
    exact ByteArray.ext (Array.ext' h4)

def IsKind (t : ByteArray) : Prop := t.size = 3 ∧ (bt t 0).toNat = 83 ∧ (48 ≤ (bt t 1).toNat ∧ (bt t 1).toNat ≤ 57) ∧ 48 ≤ (bt t 2).toNat ∧ (bt t 2).toNat ≤ 57
instance (t : ByteArray) : Decidable (IsKind t) := by unfold IsKind; exact inferInstance
def isKind (t : ByteArray) : Bool := decide (IsKind t)
def kM (t : ByteArray) : Nat := if IsKind t then (bt t 1).toNat - 48 else 0
def kR (t : ByteArray) : Nat := if IsKind t then (bt t 2).toNat - 48 else 0
theorem kM_lt (t : ByteArray) : kM t < 10 := by
  unfold kM
  split
  · rename_i h; have := h.2.2.1; omega
  · omega
theorem kR_lt (t : ByteArray) : kR t < 10 := by
  unfold kR
  split
  · rename_i h; have := h.2.2.2; omega
  · omega
abbrev Kinds := List (List Rec)
def kindsOf (s : List Mod) : Kinds := s.map Mod.records
def rRecs (l : List Rec) : List SV := [.sl 2 (l.map rRec)]
def hasK (ks : Kinds) (m k : Nat) : Bool := decide (m < ks.length) && decide (k < (nth ks m).length)
def kindIn (ks : Kinds) (t : ByteArray) : Bool := isKind t && hasK ks (kM t) (kR t)
def recOf (ks : Kinds) (t : ByteArray) : Rec := nth (nth ks (kM t)) (kR t)
theorem kindIn_iff {ks : Kinds} {t : ByteArray} : kindIn ks t = true ↔ IsKind t ∧ kM t < ks.length ∧ kR t < (nth ks (kM t)).length := by simp [kindIn, hasK, isKind]
def Ref (t : ByteArray) : Prop := 0 < t.size ∧ ((bt t 0).toNat = 38 ∨ (bt t 0).toNat = 33)
instance (t : ByteArray) : Decidable (Ref t) := by unfold Ref; exact inferInstance
def sg (t : ByteArray) : ByteArray := if Ref t then t.extract 0 1 else ⟨#[]⟩
def pl (t : ByteArray) : ByteArray := if Ref t then t.extract 1 t.size else t
theorem sg_eq {t : ByteArray} {c : UInt8} (hc : c.toNat = 38 ∨ c.toNat = 33) : sg t = ⟨#[c]⟩ ↔ Ref t ∧ bt t 0 = c := by
  have hx : ∀ (h : 0 < t.size), (t.extract 0 1).size = 1 ∧ bt (t.extract 0 1) 0 = bt t 0 := by
    intro h
    refine ⟨by rw [ByteArray.size_extract]; omega, ?_⟩
    have hs : 0 < t.data.size := h
    have e1 : (t.extract 0 1).data.toList = (t.data.toList.take 1) := by
      rw [ByteArray.data_extract]; simp [Array.toList_extract, List.extract]
    unfold bt nth
    rw [e1, List.getElem?_take, if_pos (by omega)]
  unfold sg
  split
  · rename_i h
    rw [one_byte, (hx h.1).2]
    exact ⟨fun h1 => ⟨h, h1.2⟩, fun h1 => ⟨(hx h.1).1, h1.2⟩⟩
  · rename_i h
    constructor
    · intro e
      have := congrArg ByteArray.size e
      exact absurd this (by show ¬ (0 = 1); omega)
    · intro h1; exact absurd h1.1 h
def isBase (t : ByteArray) : Bool := t.toList == (⟨#[110]⟩ : ByteArray).toList || (t.toList == (⟨#[98]⟩ : ByteArray).toList || t.toList == (⟨#[111]⟩ : ByteArray).toList)
theorem isBase_iff {t : ByteArray} : isBase t = true ↔ t = ⟨#[110]⟩ ∨ t = ⟨#[98]⟩ ∨ t = ⟨#[111]⟩ := by
  unfold isBase; rw [Bool.or_eq_true, Bool.or_eq_true, bytes_eq, bytes_eq, bytes_eq]
def plainOk (ks : Kinds) (t : ByteArray) : Bool := isBase t || kindIn ks t
def ableOf (ks : Kinds) (t : ByteArray) : Int := if Ref t ∧ (bt t 0).toNat = 38 then 3 else if Ref t then 2 else if kindIn ks t = true then (recOf ks t).able else 7
def inI (a lo hi : Int) : Bool := decide (lo ≤ a) && decide (a ≤ hi)
def limOk (limit n : Int) : Bool := decide (n = 0) || (decide (0 < n) && decide (n < limit))
def canB (a one : Int) : Bool := decide (remI (quoI a one) 2 = 1)
def isRef (t : ByteArray) : Bool := decide (Ref t)
theorem isRef_iff {t : ByteArray} : isRef t = true ↔ Ref t := decide_eq_true_iff
theorem isRef_not {t : ByteArray} (h : isRef t = false) : ¬ Ref t := of_decide_eq_false h
theorem base_notKind {t : ByteArray} (h : isBase t = true) : ¬ IsKind t := by
  rcases isBase_iff.1 h with rfl | rfl | rfl <;> (intro h1; exact absurd h1.1 (by decide))
theorem base_notRef {t : ByteArray} (h : isBase t = true) : ¬ Ref t := by
  rcases isBase_iff.1 h with rfl | rfl | rfl <;> (intro h1; have := h1.2; revert this; decide)
theorem kind_notRef {t : ByteArray} (h : IsKind t) : ¬ Ref t := by
  intro h1; have := h1.2; have := h.2.1; omega
theorem notBase_of {t : ByteArray} (h : IsKind t) : isBase t = false := by
  cases hb : isBase t with
  | false => rfl
  | true => exact absurd h (base_notKind hb)
theorem pl_of {t : ByteArray} (h : ¬ Ref t) : pl t = t := if_neg h
theorem sg38 {t : ByteArray} (h : ((sg t).toList == (⟨#[38]⟩ : ByteArray).toList) = true) : Ref t ∧ (bt t 0).toNat = 38 := by
  rw [bytes_eq, sg_eq (.inl rfl)] at h; exact ⟨h.1, by rw [h.2]; rfl⟩
theorem sgNot38 {t : ByteArray} (h : ((sg t).toList == (⟨#[38]⟩ : ByteArray).toList) = false) : ¬ (Ref t ∧ (bt t 0).toNat = 38) := by
  rintro ⟨a, b⟩
  have : ((sg t).toList == (⟨#[38]⟩ : ByteArray).toList) = true := by rw [bytes_eq, sg_eq (.inl rfl)]; exact ⟨a, UInt8.toNat_inj.1 b⟩
  rw [this] at h; cases h
theorem sg33 {t : ByteArray} (h : ((sg t).toList == (⟨#[33]⟩ : ByteArray).toList) = true) : Ref t := by
  rw [bytes_eq, sg_eq (.inr rfl)] at h; exact h.1
theorem sgNot33 {t : ByteArray} (hr : ¬ (Ref t ∧ (bt t 0).toNat = 38)) (h : ((sg t).toList == (⟨#[33]⟩ : ByteArray).toList) = false) : ¬ Ref t := by
  intro a
  rcases a.2 with b | b
  · exact hr ⟨a, b⟩
  · have : ((sg t).toList == (⟨#[33]⟩ : ByteArray).toList) = true := by rw [bytes_eq, sg_eq (.inr rfl)]; exact ⟨a, UInt8.toNat_inj.1 b⟩
    rw [this] at h; cases h
theorem ref_of {t : ByteArray} (h : (!(t.toList == (⟨#[]⟩ : ByteArray).toList) && (decide (((bt t 0).toNat : Int) = 38) || decide (((bt t 0).toNat : Int) = 33))) = true) : Ref t := by
  rw [Bool.and_eq_true] at h
  refine ⟨size_pos h.1, ?_⟩
  have h2 := h.2
  simp at h2; omega
theorem notRef_of {t : ByteArray} (h : (!(t.toList == (⟨#[]⟩ : ByteArray).toList) && (decide (((bt t 0).toNat : Int) = 38) || decide (((bt t 0).toNat : Int) = 33))) = false) : ¬ Ref t := by
  intro hr
  have h0 := hr.1
  rw [Bool.and_eq_false_iff] at h
  rcases h with h2 | h2
  · have := size_zero h2; omega
  · have h3 := hr.2; simp at h2; omega
/-- A field's type: of a record ahead. -/
def fieldOk (ks : Kinds) (m r : Nat) (t : ByteArray) : Bool := isBase t || (kindIn ks t && (decide (kM t < m) || (decide (kM t = m) && decide (kR t < r))))
end Go.Proofs.YtahciphhopiipaaGreatDoor
