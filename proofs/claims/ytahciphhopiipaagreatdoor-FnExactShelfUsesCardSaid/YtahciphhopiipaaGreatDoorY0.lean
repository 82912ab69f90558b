/- What reads as data at a type is typed data by value; a law's function called with it. No program in sight. -/
import Derived.Test.YtahciphhopiipaaGreatDoorX8
import Derived.SizedLaws
import Derived.Carry
import Derived.ChangeArms
import Derived.WideShapes
set_option linter.unusedVariables false
set_option linter.unusedSimpArgs false
namespace Go.Proofs.YtahciphhopiipaaGreatDoor.V
open Go Go.RowKit Go.WideShapes

theorem exists_list {α : Type} {p : Nat → α → Prop} : ∀ (n : Nat), (∀ i, i < n → ∃ x, p i x) → ∃ l : List α, l.length = n ∧ ∀ (i : Nat) x, l[i]? = some x → p i x
  | 0, _ => ⟨[], rfl, fun i x h => by simp at h⟩
  | n + 1, h => by
    obtain ⟨l, hl, hp⟩ := exists_list n fun i hi => h i (by omega)
    obtain ⟨x, hx⟩ := h n (by omega)
    refine ⟨l ++ [x], by simp [hl], fun i y hy => ?_⟩
    rw [List.getElem?_append] at hy
    split at hy
    · exact hp i y hy
    · rename_i hi
      have e : i = n := by
        have := (List.getElem?_eq_some_iff.1 hy).1
        simp at this; omega
      subst e
      rw [hl, Nat.sub_self] at hy
      cases hy
      exact hx
theorem exists_map {α β : Type} {p : α → Prop} {f : α → β} : ∀ (l : List β), (∀ r ∈ l, ∃ x, p x ∧ r = f x) → ∃ xs : List α, (∀ x ∈ xs, p x) ∧ l = xs.map f
  | [], _ => ⟨[], by simp, rfl⟩
  | r :: l, h => by
    obtain ⟨x, hx, rfl⟩ := h r (by simp)
    obtain ⟨xs, hp, rfl⟩ := exists_map l fun r hr => h r (by simp [hr])
    exact ⟨x :: xs, by simpa using ⟨hx, hp⟩, rfl⟩

abbrev Old (w : World) : Nat → Prop := fun b => b < w.heap.size

/-- What reads as data of a type is values of a kind. -/
def Rd (P : Program) (t : TypeId) (Q : List SV → Prop) : Prop :=
  ∀ (H : Type) (enc : TypeId × Value → H) (w : World) (fuel : Nat) (cs : List Value) (x : DataW H × List MemPlace),
    DataW.trod enc P w 0 (fun _ => true) true fuel t cs = some x → (∀ n ∈ x.1.weights P t, n ≤ reachBytes) →
    ∃ ls, Q ls ∧ ls.length = cs.length ∧ ∀ (i : Nat) v l, cs[i]? = some v → ls[i]? = some l → SRep (Old w) w v l

theorem Rd.mono {P : Program} {t : TypeId} {Q Q' : List SV → Prop} (h : Rd P t Q) (hQ : ∀ l, Q l → Q' l) : Rd P t Q' := by
  intro H enc w fuel cs x hx hw
  obtain ⟨ls, h1, h2⟩ := h H enc w fuel cs x hx hw
  exact ⟨ls, hQ _ h1, h2⟩

theorem one_at {S : Nat → Prop} {w : World} {a : Value} {b : SV} (h : SRep S w a b) : ∀ (i : Nat) v l, [a][i]? = some v → [b][i]? = some l → SRep S w v l := by
  intro i v l h1 h2
  cases i with
  | zero => simp at h1 h2; subst h1; subst h2; exact h
  | succ i => simp at h1

theorem Rd.int {P : Program} {t : TypeId} {k : IntKind} (ht : P.underlying t = some (.int k)) : Rd P t fun l => ∃ n, (Lit.int k n).wf = true ∧ l = [.int k n] := by
  intro H enc w fuel cs x hx hw
  obtain ⟨n, rfl, rfl, hn⟩ := DataW.trod_int ht hx
  exact ⟨_, ⟨n, hn, rfl⟩, rfl, one_at (.int k n)⟩
theorem Rd.bool {P : Program} {t : TypeId} (ht : P.underlying t = some .bool) : Rd P t fun l => ∃ b, l = [.bool b] := by
  intro H enc w fuel cs x hx hw
  obtain ⟨b, rfl, rfl⟩ := DataW.trod_bool ht hx
  exact ⟨_, ⟨b, rfl⟩, rfl, one_at (.bool b)⟩
theorem Rd.str {P : Program} {t : TypeId} (ht : P.underlying t = some .string) : Rd P t fun l => ∃ s, s.size ≤ 140737488351232 ∧ l = [.str s] := by
  intro H enc w fuel cs x hx hw
  obtain ⟨s, rfl, rfl, hs⟩ := DataW.trod_string ht hx
  refine ⟨_, ⟨s, ?_, rfl⟩, rfl, one_at (.str s)⟩
  have := hw s.data.toList.length (by simp [DataW.weights])
  rw [Array.length_toList] at this
  exact this

theorem weightsAll_mem {H : Type} {P : Program} {e : TypeId} : ∀ {ds : List (DataW H)} {d : DataW H}, d ∈ ds → ∀ n ∈ d.weights P e, n ∈ DataW.weightsAll P e ds
  | d0 :: ds, d, hd, n, hn => by
    simp only [DataW.weightsAll, List.mem_append]
    rcases List.mem_cons.1 hd with rfl | hd
    · exact .inl hn
    · exact .inr (weightsAll_mem hd n hn)

theorem Rd.sl {P : Program} {t e : TypeId} {sz : Nat} {Q : List SV → Prop} (ht : P.underlying t = some (.slice e)) (hc : P.cellsOf e = sz) (h0 : 0 < sz) (hb : 0 < P.bytesOf e) (hQ : Rd P e Q) :
    Rd P t fun l => ∃ rows, rows.length ≤ 140737488351232 ∧ (∀ r ∈ rows, Q r) ∧ l = [.sl sz rows] := by
  intro H enc w fuel cs x hx hw
  rcases DataW.trod_slice ht hx with ⟨rfl, rfl⟩ | ⟨a, len, cap, elems, rest, n, rfl, rfl, rfl, hba, hl, hm, hlen, hel, -, -⟩
  · exact ⟨_, ⟨[], by simp, by simp, rfl⟩, rfl, one_at (.nil sz none 0)⟩
  · have hwt : ∀ n ∈ (elems.length + rest.length) * P.bytesOf e :: (DataW.weightsAll P e (elems.map (·.1)) ++ DataW.weightsAll P e (rest.map (·.1))), n ≤ reachBytes := by
      simpa [DataW.weights, ht] using hw
    have hlen' : len ≤ 140737488351232 := by
      have h1 : (elems.length + rest.length) * P.bytesOf e ≤ 140737488351232 := hwt _ (by simp)
      have h2 : (elems.length + rest.length) * 1 ≤ (elems.length + rest.length) * P.bytesOf e := Nat.mul_le_mul_left _ hb
      omega
    obtain ⟨rows, hrl, hrows⟩ := exists_list (p := fun i (r : List SV) => ∃ cs', w.cells? 0 (a.add (i * P.cellsOf e)) (P.cellsOf e) = some cs' ∧ Q r ∧ r.length = cs'.length ∧ ∀ (j : Nat) v l, cs'[j]? = some v → r[j]? = some l → SRep (Old w) w v l) len (by
      intro i hi
      have hx := hel i hi
      have : elems[i]? = some elems[i] := List.getElem?_eq_getElem (by omega)
      rw [this, Option.bind_eq_some_iff] at hx
      obtain ⟨cs', h1, h2⟩ := hx
      obtain ⟨r, h3, h4, h5⟩ := hQ H enc w n cs' elems[i] h2 (fun m hm => hwt m (List.mem_cons_of_mem _ (List.mem_append_left _ (weightsAll_mem (List.mem_map_of_mem (List.getElem_mem (by omega))) m hm))))
      exact ⟨r, cs', h1, h3, h4, h5⟩)
    by_cases hz : len = 0
    · subst hz
      have : rows = [] := List.length_eq_zero_iff.1 hrl
      subst this
      exact ⟨_, ⟨[], by simp, by simp, rfl⟩, rfl, one_at (.nil sz (some a) cap)⟩
    · have hr0 : rows[0]? = some (rows[0]'(by omega)) := List.getElem?_eq_getElem (by omega)
      obtain ⟨c0, g1, -, -, -⟩ := hrows 0 _ hr0
      obtain ⟨-, g5, g6⟩ := World.cells?_some g1
      have g7 := g6 0 (by omega)
      have g8 : c0[0]? = some (c0[0]'(by omega)) := List.getElem?_eq_getElem (by omega)
      have ea : (a.add (0 * P.cellsOf e)).add 0 = a := by simp [Addr.add]
      rw [g8, ea] at g7
      have hsp : a.spot = none := World.cell?_spot g7
      have hblk : a.block < w.heap.size := by
        unfold World.cell? at g7
        split at g7
        · rename_i hh; exact (Array.getElem?_eq_some_iff.1 hh).1
        · cases g7
      rcases a with ⟨b, off, sp⟩
      cases (show sp = none from hsp)
      have hcell : ∀ i r, rows[i]? = some r → Q r ∧ r.length = sz ∧ ∀ j x, r[j]? = some x → ∃ v, w.cell? ⟨b, off + (i * sz + j), none⟩ = some v ∧ SRep (Old w) w v x := by
        intro i r hr
        obtain ⟨cs', h1, h2, h3, h4⟩ := hrows i r hr
        obtain ⟨-, h5, h6⟩ := World.cells?_some h1
        refine ⟨h2, by omega, fun j x hx => ?_⟩
        have hj : j < P.cellsOf e := by have := (List.getElem?_eq_some_iff.1 hx).1; omega
        have h7 := h6 j hj
        have h8 : cs'[j]? = some (cs'[j]'(by omega)) := List.getElem?_eq_getElem (by omega)
        rw [h8, hc] at h7
        refine ⟨_, ?_, h4 j _ x h8 hx⟩
        rw [← h7]
        congr 1
        unfold Addr.add
        split <;> split <;> simp <;> omega
      refine ⟨_, ⟨rows, by omega, fun r hr => ?_, rfl⟩, rfl, one_at (.sl b off len cap sz rows (fun k => (w.cell? ⟨b, off + k, none⟩).getD undef) hrl.symm hl ?_ hblk ?_ ?_)⟩
      · obtain ⟨i, hi⟩ := List.getElem?_of_mem hr
        exact (hcell i r hi).1
      · intro r hr
        obtain ⟨i, hi⟩ := List.getElem?_of_mem hr
        exact (hcell i r hi).2.1
      · intro i r j x h1 h2
        obtain ⟨v, h3, -⟩ := (hcell i r h1).2.2 j x h2
        rw [h3]; rfl
      · intro i r j x h1 h2
        obtain ⟨v, h3, h4⟩ := (hcell i r h1).2.2 j x h2
        rw [h3]; exact h4

/-- Fields that lie one behind the other. -/
inductive RdF (P : Program) (oe : Nat) : Nat → List Field → List (List SV → Prop) → Prop
  | nil : RdF P oe oe [] []
  | cons {o : Nat} {f : Field} {fs : List Field} {Q : List SV → Prop} {Qs : List (List SV → Prop)} (ho : f.offset = o) (h : Rd P f.type Q) {c : Nat} (hc : P.cellsOf f.type = c) (hr : RdF P oe (o + c) fs Qs) : RdF P oe o (f :: fs) (Q :: Qs)
inductive Parts : List (List SV → Prop) → List SV → Prop
  | nil : Parts [] []
  | cons {Q : List SV → Prop} {Qs : List (List SV → Prop)} {a b : List SV} : Q a → Parts Qs b → Parts (Q :: Qs) (a ++ b)
theorem RdF.le {P : Program} {oe o : Nat} {fs : List Field} {Qs : List (List SV → Prop)} (h : RdF P oe o fs Qs) : o ≤ oe := by
  induction h with
  | nil => exact Nat.le_refl _
  | cons _ _ _ _ ih => omega
theorem RdF.open {P : Program} {oe o : Nat} {fs : List Field} {Qs : List (List SV → Prop)} (h : RdF P oe o fs Qs) {H : Type} {enc : TypeId × Value → H} {w : World} {n : Nat} {cs : List Value} (hl : cs.length = oe) :
    ∀ (xs : List (DataW H × List MemPlace)), (∀ (i : Nat) (f : Field), fs[i]? = some f → DataW.trod enc P w 0 (fun _ => true) true n f.type ((cs.drop f.offset).take (P.cellsOf f.type)) = xs[i]?) → xs.length = fs.length →
    (∀ m ∈ DataW.weightsEach P (fs.map (·.type)) (xs.map (·.1)), m ≤ reachBytes) →
    ∃ ls, Parts Qs ls ∧ ls.length + o = oe ∧ ∀ (i : Nat) v l, cs[o + i]? = some v → ls[i]? = some l → SRep (Old w) w v l := by
  induction h with
  | nil => exact fun xs _ _ _ => ⟨[], .nil, by simp, fun i v l _ h => by simp at h⟩
  | @cons o f fs Q Qs ho h c hc hr ih =>
    intro xs hx hxl hw
    cases xs with
    | nil => simp at hxl
    | cons y ys =>
    have hle := hr.le
    have h0 := hx 0 f (by simp)
    simp only [List.getElem?_cons_zero] at h0
    simp only [List.map_cons, DataW.weightsEach, List.mem_append] at hw
    obtain ⟨a, ha, hal, har⟩ := h H enc w n _ y h0 (fun m hm => hw m (.inl hm))
    obtain ⟨b, hb, hbl, hbr⟩ := ih ys (fun i g hg => by simpa using hx (i + 1) g (by simpa using hg)) (by simpa using hxl) (fun m hm => hw m (.inr hm))
    have hac : a.length = c := by rw [hal, ho, hc]; simp; omega
    refine ⟨a ++ b, .cons ha hb, by simp; omega, fun i v l h1 h2 => ?_⟩
    rw [List.getElem?_append] at h2
    split at h2
    · rename_i hi
      refine har i v l ?_ h2
      rw [List.getElem?_take, if_pos (by omega), ho, List.getElem?_drop]; exact h1
    · rename_i hi
      refine hbr (i - a.length) v l ?_ h2
      rw [show o + c + (i - a.length) = o + i by omega]; exact h1
theorem Rd.struct {P : Program} {t : TypeId} {fs : Array Field} {oe : Nat} {Qs : List (List SV → Prop)} (ht : P.underlying t = some (.struct fs)) (hc : P.cellsOf t = oe) (hf : RdF P oe 0 fs.toList Qs) : Rd P t (Parts Qs) := by
  intro H enc w fuel cs x hx hw
  obtain ⟨xs, n, rfl, rfl, hl, hxl, hat⟩ := DataW.trod_struct ht hx
  have hw' : ∀ m ∈ DataW.weightsEach P (fs.toList.map (·.type)) (xs.map (·.1)), m ≤ reachBytes := by simpa [DataW.weights, ht] using hw
  obtain ⟨ls, h1, h2, h3⟩ := hf.open (by omega) xs (fun i f hf => hat i f (by simpa using hf)) (by simpa using hxl) hw'
  exact ⟨ls, h1, by omega, fun i v l h4 h5 => h3 i v l (by simpa using h4) h5⟩

theorem Rd.list {P : Program} {t e : TypeId} {sz : Nat} {α : Type} {ok : α → Prop} {f : α → List SV} (ht : P.underlying t = some (.slice e)) (hc : P.cellsOf e = sz) (h0 : 0 < sz) (hb : 0 < P.bytesOf e) (hQ : Rd P e fun l => ∃ x, ok x ∧ l = f x) :
    Rd P t fun l => ∃ xs : List α, (xs.length ≤ 140737488351232 ∧ ∀ x ∈ xs, ok x) ∧ l = [.sl sz (xs.map f)] :=
  (Rd.sl ht hc h0 hb hQ).mono fun l ⟨rows, h1, h2, h3⟩ => by
    obtain ⟨xs, h4, rfl⟩ := exists_map rows h2
    exact ⟨xs, ⟨by simpa using h1, h4⟩, h3⟩

/-- What an argument is to a contract. -/
def ArgRel (w : World) (v : Value) : Part → Prop
  | .lf (.im true x) => SRep (Old w) w v x
  | .agg ls => ∃ cs, v = .agg cs ∧ ∃ xs : List SV, ls = xs.map (Leaf.im true) ∧ cs.size = xs.length ∧ ∀ (j : Nat) l v, xs[j]? = some l → cs[j]? = some v → SRep (Old w) w v l
  | _ => False

theorem Rd.agg {P : Program} {t : TypeId} {fs : Array Field} {Q : List SV → Prop} (hQ : Rd P t Q) (ht : P.underlying t = some (.struct fs)) {H : Type} {enc : TypeId × Value → H} {w : World} {r : Reach} {base : Nat} {v : Value} {d : DataW H} {ps : List MemPlace}
    (hv : Value.okWide P w r base t v) (h : DataW.Trod enc P w 0 (fun _ => true) true t v d ps) (hw : ∀ n ∈ d.weights P t, n ≤ reachBytes) : ∃ ls, Q ls ∧ ArgRel w v (.agg (ls.map (Leaf.im true))) := by
  obtain ⟨cs, rfl, -⟩ := okWide_struct ht hv
  obtain ⟨fuel, h⟩ := h
  obtain ⟨ls, h1, h2, h3⟩ := hQ H enc w fuel _ _ h hw
  exact ⟨ls, h1, cs, rfl, ls, rfl, by simpa [Value.cells] using h2.symm, fun j l v h4 h5 => h3 j v l (by simpa [Value.cells] using h5) h4⟩
theorem Rd.one {P : Program} {t : TypeId} {Q : List SV → Prop} (hQ : Rd P t Q) {H : Type} {enc : TypeId × Value → H} {w : World} {v : Value} {d : DataW H} {ps : List MemPlace}
    (hv : v.cells = #[v]) (h : DataW.Trod enc P w 0 (fun _ => true) true t v d ps) (hw : ∀ n ∈ d.weights P t, n ≤ reachBytes) : ∃ x, Q [x] ∧ ArgRel w v (.lf (.im true x)) := by
  obtain ⟨fuel, h⟩ := h
  obtain ⟨ls, h1, h2, h3⟩ := hQ H enc w fuel _ _ h hw
  rw [hv] at h2 h3
  match ls, h2 with
  | [x], _ => exact ⟨x, h1, h3 0 v x (by simp) (by simp)⟩
theorem cells_slice {P : Program} {w : World} {r : Reach} {base : Nat} {t e : TypeId} {v : Value} (ht : P.underlying t = some (.slice e)) (h : Value.okWide P w r base t v) : v.cells = #[v] := by
  obtain ⟨a, len, cap, rfl⟩ := okWide_slice ht h; rfl
theorem cells_str {P : Program} {w : World} {r : Reach} {base : Nat} {t : TypeId} {v : Value} (ht : P.underlying t = some .string) (h : Value.okWide P w r base t v) : v.cells = #[v] := by
  obtain ⟨a, rfl⟩ := okWide_string ht h; rfl
theorem cells_int {P : Program} {w : World} {r : Reach} {base : Nat} {t : TypeId} {k : IntKind} {v : Value} (ht : P.underlying t = some (.int k)) (h : Value.okWide P w r base t v) : v.cells = #[v] := by
  obtain ⟨a, rfl⟩ := okWide_int ht h; rfl

theorem weights_at {H : Type} {P : Program} {ts : List TypeId} {ds : List (DataW H)} (h : (DataW.weightsEach P ts ds).all (· ≤ reachBytes) = true) (j : Nat) {t : TypeId} {d : DataW H} (ht : ts[j]? = some t) (hd : ds[j]? = some d) : ∀ n ∈ d.weights P t, n ≤ reachBytes :=
  fun n hn => by simpa using List.all_eq_true.1 h n (DataW.weights_mem_each ht hd n hn)

/-- Tags of memory in which nothing is owned. -/
def oldTags (w : World) : Nat → Tag := fun b => if b < w.heap.size then .imm else .none
theorem oldTags_imm {w : World} {b : Nat} (h : Old w b) : Imm (oldTags w) true b := .inl (by unfold oldTags; rw [if_pos h])
theorem ArgRel.part {w : World} {v : Value} {p : Part} (h : ArgRel w v p) (k i : Nat) : PartRel (oldTags w) w k i v p := by
  match p with
  | .lf (.im true x) => exact SRep.mono h (fun _ _ => rfl) fun b hb => oldTags_imm hb
  | .agg ls =>
    obtain ⟨cs, rfl, xs, rfl, hs, hr⟩ := h
    refine ⟨cs, rfl, by simpa using hs, fun j l v h1 h2 => ?_⟩
    rw [List.getElem?_map, Option.map_eq_some_iff] at h1
    obtain ⟨x, h1, rfl⟩ := h1
    exact SRep.mono (hr j x v h1 h2) (fun _ _ => rfl) fun b hb => oldTags_imm hb
/-- A law's function, called. -/
theorem law_calls {P : Program} {f : FuncId} {args : List Part} (h : CallV P f args (· = .bool true)) (w : World) (hl : Lw w) (vs : Array Value) (hs : vs.size = args.length)
    (hr : ∀ (i : Nat) p v, args[i]? = some p → vs[i]? = some v → ArgRel w v p) : Calls P f vs w fun e w' => e = .returned (.bool true) ∧ Below w.heap.size w w' := by
  refine (h (oldTags w) w vs hl ?_ ?_ hs fun i p v h1 h2 => (hr i p v h1 h2).part 0 i).mono fun e w' ⟨v, g', s, he, hb, hs, hrel, _⟩ => ?_
  · intro b k i j; unfold oldTags; split <;> intro e <;> cases e
  · intro b hb; unfold oldTags; rw [if_neg (by omega)]
  · subst hs
    have hrel : SRep (Imm g' true) w' v (.bool true) := hrel
    cases hrel
    exact ⟨he, hb⟩
theorem args1 {w : World} {v0 : Value} {p0 : Part} (h0 : ArgRel w v0 p0) : ∀ (i : Nat) p v, [p0][i]? = some p → (#[v0] : Array Value)[i]? = some v → ArgRel w v p := by
  intro i p v h1 h2
  match i with
  | 0 => simp at h1 h2; subst h1; subst h2; exact h0
  | i + 1 => simp at h1
theorem args2 {w : World} {v0 v1 : Value} {p0 p1 : Part} (h0 : ArgRel w v0 p0) (h1 : ArgRel w v1 p1) : ∀ (i : Nat) p v, [p0, p1][i]? = some p → (#[v0, v1] : Array Value)[i]? = some v → ArgRel w v p := by
  intro i p v h2 h3
  match i with
  | 0 => simp at h2 h3; subst h2; subst h3; exact h0
  | 1 => simp at h2 h3; subst h2; subst h3; exact h1
  | i + 2 => simp at h2
theorem args3 {w : World} {v0 v1 v2 : Value} {p0 p1 p2 : Part} (h0 : ArgRel w v0 p0) (h1 : ArgRel w v1 p1) (h2 : ArgRel w v2 p2) : ∀ (i : Nat) p v, [p0, p1, p2][i]? = some p → (#[v0, v1, v2] : Array Value)[i]? = some v → ArgRel w v p := by
  intro i p v h3 h4
  match i with
  | 0 => simp at h3 h4; subst h3; subst h4; exact h0
  | 1 => simp at h3 h4; subst h3; subst h4; exact h1
  | 2 => simp at h3 h4; subst h3; subst h4; exact h2
  | i + 3 => simp at h3
end Go.Proofs.YtahciphhopiipaaGreatDoor.V
