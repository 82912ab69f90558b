/- When kinds, records, functions, shelves have the shape. -/
import Derived.Test.YtahciphhopiipaaGreatDoorD1
set_option linter.unusedVariables false
set_option linter.unusedSimpArgs false
namespace Go.Proofs.YtahciphhopiipaaGreatDoor
open Go Go.RowKit V

/-- All ahead of a place. -/
def Upto {α : Type} [Inhabited α] (p : Nat → α → Prop) (l : List α) (i : Nat) : Prop := ∀ j, j < i → p j (nth l j)
theorem upto0 {α : Type} [Inhabited α] {p : Nat → α → Prop} {l : List α} : Upto p l 0 := fun j h => by omega
theorem uptoS {α : Type} [Inhabited α] {p : Nat → α → Prop} {l : List α} {i : Nat} (h : Upto p l i) (hp : p i (nth l i)) : Upto p l (i + 1) := fun j hj => by
  by_cases e : j = i
  · subst e; exact hp
  · exact h j (by omega)
theorem uptoN {α : Type} [Inhabited α] {p : Nat → α → Prop} {l : List α} {i n : Nat} (hi : i < n) (hp : ¬ p i (nth l i)) : ¬ Upto p l n := fun h => hp (h i hi)
theorem uptoE {α : Type} [Inhabited α] {p : Nat → α → Prop} {l : List α} {i n : Nat} (h : Upto p l i) (hi : n ≤ i) : Upto p l n := fun j hj => h j (by omega)

def rise1 (l : List Int) (lo hi : Int) (j : Nat) (x : Int) : Prop := lo ≤ x ∧ x ≤ hi ∧ (0 < j → nth l (j - 1) < x)
def Rising (l : List Int) (lo hi : Int) : Prop := Upto (rise1 l lo hi) l l.length
def Fit (ks : Kinds) (l : List ByteArray) : Prop := Upto (fun _ t => plainOk ks (pl t) = true) l l.length
noncomputable def fits (a b : Int) : Bool := decide (andNotI (andI a 7) b = 0) && !(decide (andI a 8 ≠ 0) && decide (andI b 4 = 0))
def fitsC (a b : Int) : Bool := decide (andNotC (andC a 7) b = 0) && !(decide (andC a 8 ≠ 0) && decide (andC b 4 = 0))
theorem fits_eq (a b : Int) : fits a b = fitsC a b := by unfold fits fitsC; rw [andI_eq, andI_eq, andI_eq, andNotI_eq]
theorem fits_spec {a b : Int} (h0 : 0 ≤ a) (h1 : a ≤ 15) (h2 : 0 ≤ b) (h3 : b ≤ 15) :
    fits a b = (!(bif canB a 1 then (!canB b 1 || (canB a 2 && !canB b 2)) else (canB a 2 && !canB b 2)) && !(decide (a ≥ 4) && !canB b 4)) := by
  obtain ⟨m, rfl⟩ := Int.eq_ofNat_of_zero_le h0
  obtain ⟨n, rfl⟩ := Int.eq_ofNat_of_zero_le h2
  rw [fits_eq]
  have hall : ∀ m : Fin 16, ∀ n : Fin 16, fitsC ((m.val : Nat) : Int) ((n.val : Nat) : Int) = (!(bif canB ((m.val : Nat) : Int) 1 then (!canB ((n.val : Nat) : Int) 1 || (canB ((m.val : Nat) : Int) 2 && !canB ((n.val : Nat) : Int) 2)) else (canB ((m.val : Nat) : Int) 2 && !canB ((n.val : Nat) : Int) 2)) && !(decide (((m.val : Nat) : Int) ≥ 4) && !canB ((n.val : Nat) : Int) 4)) := by
    decide +kernel
  exact hall ⟨m, by omega⟩ ⟨n, by omega⟩
theorem fits_not {a b : Int} (h : (decide (andNotI (andI a 7) b ≠ 0) || (decide (andI a 8 ≠ 0) && decide (andI b 4 = 0))) = true) : fits a b = false := by
  unfold fits
  by_cases h1 : andNotI (andI a 7) b = 0
  · simp [h1] at h ⊢; exact h
  · simp [h1]
theorem fits_yes {a b : Int} (h : (decide (andNotI (andI a 7) b ≠ 0) || (decide (andI a 8 ≠ 0) && decide (andI b 4 = 0))) = false) : fits a b = true := by
  unfold fits
  by_cases h1 : andNotI (andI a 7) b = 0
  · simp [h1] at h ⊢; omega
  · simp [h1] at h
theorem safe_spec {a : Int} (h0 : 0 ≤ a) (h1 : a ≤ 15) : decide (andI a 3 = 0) = (!canB a 1 && !canB a 2) := by
  obtain ⟨m, rfl⟩ := Int.eq_ofNat_of_zero_le h0
  rw [andI_eq]
  have hall : ∀ m : Fin 16, decide (andC ((m.val : Nat) : Int) 3 = 0) = (!canB ((m.val : Nat) : Int) 1 && !canB ((m.val : Nat) : Int) 2) := by decide +kernel
  exact hall ⟨m, by omega⟩

def fieldFine (ks : Kinds) (m r : Nat) (a : Int) (t : ByteArray) : Prop := fieldOk ks m r t = true ∧ fits a (ableOf ks t) = true
structure RecOk (ks : Kinds) (m r : Nat) : Prop where
  lo : 0 ≤ (nth (nth ks m) r).able
  hi : (nth (nth ks m) r).able ≤ 15
  len : (nth (nth ks m) r).fields.length ≤ 3
  fields : Upto (fun _ t => fieldFine ks m r (nth (nth ks m) r).able t) (nth (nth ks m) r).fields (nth (nth ks m) r).fields.length
/-- Those ahead have abilities that are ones. -/
def Ahead (ks : Kinds) (m r : Nat) : Prop := ∀ a b, (a < m ∨ (a = m ∧ b < r)) → a < ks.length → b < (nth ks a).length → 0 ≤ (nth (nth ks a) b).able ∧ (nth (nth ks a) b).able ≤ 15
theorem able_range {ks : Kinds} {m r : Nat} {t : ByteArray} (h : Ahead ks m r) (hf : fieldOk ks m r t = true) : 0 ≤ ableOf ks t ∧ ableOf ks t ≤ 15 := by
  unfold ableOf
  split
  · omega
  · split
    · omega
    · split
      · rename_i hk
        obtain ⟨hk0, hm, hr⟩ := kindIn_iff.1 hk
        unfold fieldOk at hf
        rw [notBase_of hk0] at hf
        simp at hf
        exact h _ _ (by omega) hm hr
      · omega
theorem field_kind {ks : Kinds} {m r : Nat} {t : ByteArray} (hf : fieldOk ks m r t = true) : IsKind t → kindIn ks t = true := by
  intro hk
  unfold fieldOk at hf
  rw [notBase_of hk] at hf
  simp at hf
  exact hf.1
theorem fieldBad {ks : Kinds} {m r : Nat} {t : ByteArray} :
    (bif isKind t then (decide (((kM t : Nat) : Int) > ((m : Nat) : Int)) || (bif decide (((kM t : Nat) : Int) = ((m : Nat) : Int)) then (decide (((kR t : Nat) : Int) ≥ ((r : Nat) : Int)) || !plainOk ks t) else !plainOk ks t)) else !plainOk ks t) = !fieldOk ks m r t := by
  unfold fieldOk plainOk
  by_cases hk : IsKind t
  · have hb := notBase_of hk
    have hki : isKind t = true := decide_eq_true hk
    rw [hb, hki]
    by_cases h1 : m < kM t
    · have h2 : ¬ kM t < m := by omega
      have h3 : ¬ kM t = m := by omega
      simp [h1, h2, h3]
    · by_cases h3 : kM t = m
      · subst h3
        by_cases h4 : r ≤ kR t
        · have h5 : ¬ kR t < r := by omega
          simp [h4, h5]
        · have h5 : kR t < r := by omega
          simp [h4, h5]
      · have h2 : kM t < m := by omega
        have h6 : ¬ ((kM t : Nat) : Int) = ((m : Nat) : Int) := by omega
        simp [h1, h2, h3, h6]
  · have hki : isKind t = false := decide_eq_false hk
    have hin : kindIn ks t = false := by simp [kindIn, hki]
    rw [hki, hin]
    simp

/-- The first place at which something holds. -/
noncomputable def least (p : Nat → Prop) : Nat → Nat
  | 0 => 0
  | n + 1 => bif B (least p n < n) then least p n else bif B (p n) then n else n + 1
theorem least_no {p : Nat → Prop} : ∀ {n : Nat}, (∀ j, j < n → ¬ p j) → least p n = n
  | 0, _ => rfl
  | n + 1, h => by
    unfold least
    rw [least_no fun j hj => h j (by omega), B_false (Nat.lt_irrefl n), B_false (h n (by omega))]
    rfl
theorem least_at {p : Nat → Prop} : ∀ {n i : Nat}, i < n → p i → (∀ j, j < i → ¬ p j) → least p n = i
  | 0, _, h, _, _ => by omega
  | n + 1, i, hi, hp, hn => by
    unfold least
    by_cases e : i < n
    · rw [least_at e hp hn, B_true e]; rfl
    · have : i = n := by omega
      subst this
      rw [least_no hn, B_false (Nat.lt_irrefl i), B_true hp]; rfl
structure ModOk (ks : Kinds) (m : Nat) : Prop where
  len : (nth ks m).length ≤ 3
  recs : ∀ r, r < (nth ks m).length → RecOk ks m r
noncomputable def lb (ks : Kinds) : Nat := least (fun m => ¬ ModOk ks m) ks.length
noncomputable def badM (ks : Kinds) : Int := if 3 < ks.length then 3 else if lb ks < ks.length then ((lb ks : Nat) : Int) else -1
noncomputable def badR (ks : Kinds) : Int := if 3 < ks.length then 0 else if lb ks < ks.length then (if 3 < (nth ks (lb ks)).length then 3 else ((least (fun r => ¬ RecOk ks (lb ks) r) (nth ks (lb ks)).length : Nat) : Int)) else -1
structure KOk (ks : Kinds) : Prop where
  len : ks.length ≤ 3
  mods : ∀ m, m < ks.length → ModOk ks m
theorem bad_big {ks : Kinds} (h : 3 < ks.length) : badM ks = 3 ∧ badR ks = 0 := ⟨if_pos h, if_pos h⟩
theorem bad_len {ks : Kinds} {i : Nat} (h : ¬ 3 < ks.length) (hi : i < ks.length) (hp : ∀ j, j < i → ModOk ks j) (hl : 3 < (nth ks i).length) : badM ks = i ∧ badR ks = 3 := by
  have e : lb ks = i := least_at hi (fun hm => by have := hm.len; omega) fun j hj hn => hn (hp j hj)
  unfold badM badR
  rw [e, if_neg h, if_neg h, if_pos hi, if_pos hi, if_pos hl]
  exact ⟨rfl, rfl⟩
theorem bad_rec {ks : Kinds} {i r : Nat} (h : ¬ 3 < ks.length) (hi : i < ks.length) (hp : ∀ j, j < i → ModOk ks j) (hl : ¬ 3 < (nth ks i).length) (hr : r < (nth ks i).length) (hq : ∀ j, j < r → RecOk ks i j) (hn : ¬ RecOk ks i r) : badM ks = i ∧ badR ks = r := by
  have e : lb ks = i := least_at hi (fun hm => hn (hm.recs r hr)) fun j hj hn => hn (hp j hj)
  unfold badM badR
  rw [e, if_neg h, if_neg h, if_pos hi, if_pos hi, if_neg hl, least_at hr hn fun j hj hn => hn (hq j hj)]
  exact ⟨rfl, rfl⟩
theorem bad_no {ks : Kinds} (h : ¬ 3 < ks.length) (hp : ∀ j, j < ks.length → ModOk ks j) : badM ks = -1 ∧ badR ks = -1 := by
  have e : lb ks = ks.length := least_no fun j hj hn => hn (hp j hj)
  unfold badM badR
  rw [e, if_neg h, if_neg h, if_neg (Nat.lt_irrefl _), if_neg (Nat.lt_irrefl _)]
  exact ⟨rfl, rfl⟩
theorem badM_iff {ks : Kinds} : badM ks < 0 ↔ KOk ks := by
  constructor
  · intro h
    unfold badM at h
    split at h
    · omega
    · rename_i h3
      split at h
      · omega
      · rename_i hl
        refine ⟨by omega, fun m hm => Classical.byContradiction fun hn => hl ?_⟩
        have key : ∀ n i, i < n → ¬ ModOk ks i → least (fun m => ¬ ModOk ks m) n < n := by
          intro n
          induction n with
          | zero => intro i hi; omega
          | succ n ih =>
            intro i hi hn
            unfold least
            by_cases e : least (fun m => ¬ ModOk ks m) n < n
            · rw [B_true e]; show _ < _; simp only [cond_true]; omega
            · have hin : i = n := Classical.byContradiction fun hne => e (ih i (by omega) hn)
              subst hin
              rw [B_false e, B_true hn]; simp
        exact key _ m hm hn
  · intro h
    rw [(bad_no (by have := h.len; omega) h.mods).1]; decide
theorem badM_ge (ks : Kinds) : -1 ≤ badM ks := by
  unfold badM; split
  · omega
  · split <;> omega
theorem badM_eq {ks : Kinds} : badM ks = -1 ↔ KOk ks := by rw [← badM_iff]; have := badM_ge ks; omega
theorem ahead_of {ks : Kinds} {i r : Nat} (hp : ∀ j, j < i → ModOk ks j) (hq : ∀ j, j < r → RecOk ks i j) : Ahead ks i r := by
  intro a b h ha hb
  rcases h with h | ⟨rfl, h⟩
  · exact ⟨((hp a h).recs b hb).lo, ((hp a h).recs b hb).hi⟩
  · exact ⟨(hq b h).lo, (hq b h).hi⟩

/-- The words of instructions, and below what their numbers are. -/
def W1 : List ByteArray := [⟨#[116, 114, 117, 101]⟩, ⟨#[102, 97, 108, 115, 101]⟩, ⟨#[109, 101]⟩, ⟨#[97, 100, 100]⟩, ⟨#[115, 117, 98]⟩, ⟨#[109, 117, 108]⟩, ⟨#[100, 105, 118]⟩, ⟨#[109, 111, 100]⟩, ⟨#[108, 101, 115, 115]⟩, ⟨#[115, 97, 109, 101]⟩, ⟨#[97, 110, 100]⟩, ⟨#[111, 114]⟩, ⟨#[110, 111, 116]⟩]
def W2 : List ByteArray := [⟨#[107, 101, 101, 112]⟩, ⟨#[116, 97, 107, 101]⟩, ⟨#[104, 97, 115]⟩, ⟨#[115, 101, 101]⟩, ⟨#[115, 101, 101, 119]⟩]
def mkw (n : Int) (w : ByteArray) : Ins := ⟨w, n, 0⟩
def FA : List Ins := [⟨⟨#[110, 117, 109]⟩, 1000001, 0⟩]
def FB : List Ins := [⟨⟨#[99, 111, 112, 121]⟩, 6, 0⟩, ⟨⟨#[109, 111, 118, 101]⟩, 6, 0⟩, ⟨⟨#[112, 117, 116]⟩, 6, 0⟩, ⟨⟨#[100, 114, 111, 112]⟩, 0, 0⟩]
def FC : List Ins := [⟨⟨#[112, 97, 99, 107]⟩, 3, 0⟩, ⟨⟨#[117, 110, 112, 97, 99, 107]⟩, 3, 0⟩, ⟨⟨#[108, 101, 110, 100]⟩, 6, 0⟩, ⟨⟨#[108, 101, 110, 100, 119]⟩, 6, 0⟩, ⟨⟨#[102, 105, 101, 108, 100]⟩, 3, 3⟩]
def FD : List Ins := [⟨⟨#[114, 101, 97, 100]⟩, 0, 0⟩, ⟨⟨#[112, 101, 101, 107]⟩, 0, 0⟩, ⟨⟨#[119, 114, 105, 116, 101]⟩, 0, 0⟩, ⟨⟨#[102, 114, 101, 101, 122, 101]⟩, 0, 0⟩]
def FE : List Ins := [⟨⟨#[106, 117, 109, 112]⟩, 40, 0⟩, ⟨⟨#[122, 101, 114, 111]⟩, 40, 0⟩, ⟨⟨#[99, 97, 108, 108]⟩, 3, 4⟩, ⟨⟨#[114, 101, 116]⟩, 0, 0⟩, ⟨⟨#[102, 97, 105, 108]⟩, 0, 0⟩]
def FORMS : List Ins := ((((FA ++ W1.map (mkw 0)) ++ FB) ++ FC) ++ FD) ++ W2.map (mkw 3) ++ FE
def formV (op : ByteArray) : Ins := (FORMS.find? (fun f => decide (f.op = op))).getD ⟨⟨#[]⟩, 0, 0⟩
def formB (op : ByteArray) : Bool := (FORMS.find? (fun f => decide (f.op = op))).isSome
theorem form_at {op : ByteArray} {i : Nat} (hi : i < FORMS.length) (hn : ∀ j, j < i → (nth FORMS j).op ≠ op) (h : (nth FORMS i).op = op) : formV op = nth FORMS i ∧ formB op = true := by
  have e : FORMS.find? (fun f => decide (f.op = op)) = some (nth FORMS i) := by
    rw [List.find?_eq_some_iff_getElem]
    have hx := nth_at hi
    obtain ⟨h1, h2⟩ := List.getElem?_eq_some_iff.1 hx
    refine ⟨by simpa using h, i, h1, h2, fun j hj => ?_⟩
    have := hn j hj
    rw [nth_of (List.getElem?_eq_getElem (by omega))] at this
    simpa using this
  unfold formV formB
  rw [e]
  exact ⟨rfl, rfl⟩
theorem form_no {op : ByteArray} (hn : ∀ j, j < FORMS.length → (nth FORMS j).op ≠ op) : formV op = ⟨⟨#[]⟩, 0, 0⟩ ∧ formB op = false := by
  have e : FORMS.find? (fun f => decide (f.op = op)) = none := by
    rw [List.find?_eq_none]
    intro f hf
    obtain ⟨j, hj⟩ := List.getElem?_of_mem hf
    have := hn j (List.getElem?_eq_some_iff.1 hj).1
    rw [nth_of hj] at this
    simpa using this
  unfold formV formB
  rw [e]
  exact ⟨rfl, rfl⟩
theorem form_lim (op : ByteArray) : (0 ≤ (formV op).a ∧ (formV op).a ≤ 1000001) ∧ 0 ≤ (formV op).b ∧ (formV op).b ≤ 1000001 := by
  have hall : ∀ f ∈ FORMS, (0 ≤ f.a ∧ f.a ≤ 1000001) ∧ 0 ≤ f.b ∧ f.b ≤ 1000001 := by decide +kernel
  unfold formV
  cases e : FORMS.find? (fun f => decide (f.op = op)) with
  | none => exact ⟨⟨Int.le_refl 0, by decide⟩, Int.le_refl 0, by decide⟩
  | some f => exact hall f (List.mem_of_find?_eq_some e)
def insOk (i : Ins) : Bool := formB i.op && (limOk (formV i.op).a i.a && limOk (formV i.op).b i.b)
def CALL : ByteArray := ⟨#[99, 97, 108, 108]⟩
def codeFine (m : Nat) (i : Ins) : Prop := insOk i = true ∧ ¬ (i.op = CALL ∧ (m : Int) < i.a)
theorem code_of {m : Nat} {x : Ins} (h : (!insOk x || ((x.op.toList == (⟨#[99, 97, 108, 108]⟩ : ByteArray).toList) && decide ((x.a : Int) > ((m : Nat) : Int)))) = false) : codeFine m x := by
  rw [Bool.or_eq_false_iff, Bool.not_eq_false', Bool.and_eq_false_iff] at h
  refine ⟨h.1, fun ⟨e, hl⟩ => ?_⟩
  rcases h.2 with h2 | h2
  · have h5 : (x.op.toList == (⟨#[99, 97, 108, 108]⟩ : ByteArray).toList) = true := bytes_eq.2 e
    rw [h5] at h2; cases h2
  · exact of_decide_eq_false h2 hl
theorem code_not {m : Nat} {x : Ins} (h : (!insOk x || ((x.op.toList == (⟨#[99, 97, 108, 108]⟩ : ByteArray).toList) && decide ((x.a : Int) > ((m : Nat) : Int)))) = true) : ¬ codeFine m x := by
  rintro ⟨h1, h2⟩
  rw [h1, Bool.or_eq_true, Bool.and_eq_true] at h
  rcases h with h | ⟨h3, h4⟩
  · cases h
  · exact h2 ⟨bytes_eq.1 h3, of_decide_eq_true h4⟩
structure CodeOk (m : Nat) (l : List Ins) : Prop where
  code : Upto (fun _ i => codeFine m i) l l.length
  c1 : 1 ≤ l.length
  c2 : l.length ≤ 40
structure FnShape (ks : Kinds) (m : Nat) (f : Fn) : Prop where
  seen : 0 ≤ f.seen ∧ f.seen ≤ 2
  args : f.args.length ≤ 3
  rets : f.rets.length ≤ 3
  locs : f.args.length + f.locals.length ≤ 6
  fa : Fit ks f.args
  fr : Fit ks f.rets
  fl : Fit ks f.locals
  takes : Rising f.takes 0 ((((nth ks m).length : Nat) : Int) - 1)
  code : Upto (fun _ i => codeFine m i) f.code f.code.length
  c1 : 1 ≤ f.code.length
  c2 : f.code.length ≤ 40
structure ModShape (a : List Mod) (i : Nat) (m : Mod) : Prop where
  funcs : m.funcs.length ≤ 4
  friends : Rising m.friends ((i + 1 : Nat) : Int) (((a.length : Nat) : Int) - 1)
  fns : Upto (fun _ f => FnShape ((kindsOf a).take (i + 1)) i f) m.funcs m.funcs.length
structure Shape (a : List Mod) : Prop where
  kinds : KOk (kindsOf a)
  mods : Upto (ModShape a) a a.length
def Safe (a : List Mod) (k : ByteArray) : Prop := Shape a ∧ kindIn (kindsOf a) k = true ∧ andI (recOf (kindsOf a) k).able 3 = 0
def smallS (a : List Mod) : Prop := a.length ≤ 1048576 ∧ ∀ m ∈ a, m.small
theorem retII {a b c d : Int} (h : c = a ∧ d = b) : slotOf [.lf (.im true (.int .i64 a)), .lf (.im true (.int .i64 b))] = .tup [.lf (.im true (.int .i64 c)), .lf (.im true (.int .i64 d))] := by rw [h.1, h.2]; rfl
theorem retForm {v x : Ins} {b c : Bool} (h : v = x ∧ b = c) : slotOf [.agg [.im true (.str x.op), .im true (.int .i64 x.a), .im true (.int .i64 x.b)], .lf (.im true (.bool c))] = .tup [.agg [.im true (.str v.op), .im true (.int .i64 v.a), .im true (.int .i64 v.b)], .lf (.im true (.bool b))] := by rw [h.1, h.2]; rfl
theorem mods_succ {p : Nat → Prop} {i : Nat} (h : ∀ j, j < i → p j) (hi : p i) : ∀ j, j < i + 1 → p j := fun j hj => by
  by_cases e : j = i
  · subst e; exact hi
  · exact h j (by omega)
theorem take_app {α : Type} {f : α → List SV} {l : List α} {i : Nat} {x : α} (h : l[i]? = some x) : (l.take i).map f ++ [f x] = (l.take (i + 1)).map f := by
  rw [List.take_add_one, h]; simp
theorem app_forms {α β : Type} {f : β → List SV} {g : α → β} {F : List β} {l : List α} {i : Nat} {x : α} (h : l[i]? = some x) : (F ++ (l.take i).map g).map f ++ [f (g x)] = (F ++ (l.take (i + 1)).map g).map f := by
  rw [List.take_add_one, h]; simp
/-- Those parts of a function's shape that two lines ask for. -/
structure FnParts (ks : Kinds) (m : Nat) (f : Fn) : Prop where
  fa : Fit ks f.args
  fr : Fit ks f.rets
  fl : Fit ks f.locals
  takes : Rising f.takes 0 ((((nth ks m).length : Nat) : Int) - 1)
theorem take_len {ks : Kinds} {m : Nat} (hm : m < ks.length) : m < (ks.take (m + 1)).length := by rw [List.length_take]; omega
theorem shape_range {a : List Mod} {k : ByteArray} (h : Shape a) (hk : kindIn (kindsOf a) k = true) : 0 ≤ (recOf (kindsOf a) k).able ∧ (recOf (kindsOf a) k).able ≤ 15 := by
  obtain ⟨_, hm, hr⟩ := kindIn_iff.1 hk
  have := (h.kinds.mods _ hm).recs _ hr
  exact ⟨this.lo, this.hi⟩
theorem ableOf_kind {ks : Kinds} {k : ByteArray} (hk : kindIn ks k = true) : ableOf ks k = (recOf ks k).able := by
  have hn := kind_notRef (kindIn_iff.1 hk).1
  unfold ableOf
  rw [if_neg (fun h => hn h.1), if_neg hn, if_pos hk]
theorem safe_eq {a : List Mod} {k : ByteArray} : B (Safe a k) = (B (Shape a) && (kindIn (kindsOf a) k && decide (andI (recOf (kindsOf a) k).able 3 = 0))) := by
  rw [Bool.eq_iff_iff, B_iff, Bool.and_eq_true, Bool.and_eq_true, B_iff, decide_eq_true_iff]
  exact Iff.rfl
theorem smallS_of {a : List Mod} (h : wMods a ≤ 1048576) : smallS a := by
  unfold wMods at h
  refine ⟨by omega, fun m hm => Mod.small_of ?_⟩
  have := le_sum (f := wMod) hm
  omega
theorem kinds_len (a : List Mod) : (kindsOf a).length = a.length := by simp [kindsOf]
theorem kinds_at {a : List Mod} {i : Nat} {x : Mod} (h : a[i]? = some x) : (kindsOf a)[i]? = some x.records := by simp [kindsOf, h]
end Go.Proofs.YtahciphhopiipaaGreatDoor
