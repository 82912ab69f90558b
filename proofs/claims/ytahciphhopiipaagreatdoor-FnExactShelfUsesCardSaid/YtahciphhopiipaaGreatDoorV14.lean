/- Owned slices: sharing, appending, making. -/
import Derived.Test.YtahciphhopiipaaGreatDoorV13
import Derived.Maps.AppendAt
set_option linter.unusedVariables false
set_option linter.unusedSimpArgs false
namespace Go.Proofs.YtahciphhopiipaaGreatDoor.V
open Go Go.RowKit

/-- Rows in a block that is shared are data. -/
theorem RowsIn.data {g : Nat → Tag} {w : World} {b c e sz : Nat} {cur : Array Value} {rows : List (List SV)} (hr : RowsIn g w cur sz rows) (hh : w.heap[b]? = some (.cells cur e (0, 0))) (hc : rows.length ≤ c)
    (S : Nat → Prop) (hS : ∀ x, g x = .imm → S x) (hb : S b) : SRep S w (.slice (some ⟨b, 0, none⟩) rows.length c) (.sl sz rows) := by
  refine .sl b 0 rows.length c sz rows (fun j => cur.getD j undef) rfl hc hr.1 hb ?_ ?_
  · intro i r j x h1 h2
    obtain ⟨y, hy, _⟩ := hr.2 i r j x h1 h2
    simp [World.cell?, hh, hy, Array.getD_eq_getD_getElem?]
  · intro i r j x h1 h2
    obtain ⟨y, hy, hs⟩ := hr.2 i r j x h1 h2
    rw [Array.getD_eq_getD_getElem?, hy]
    exact hs.mono (fun _ _ => rfl) fun b hb => hS b hb.sh

/-- An owned slice becomes data. -/
theorem turn_freeze {E : Env} {σ : St} (t b c e sz : Nat) (rows : List (List SV)) (hx : σ (tk t) = .lf (.u b c e sz rows)) : Turn E σ (· = upd σ (tk t) (.lf (.im true (.sl sz rows)))) := by
  intro g w a h
  have hs := h.slot t
  rw [hx] at hs
  obtain ⟨hv, hg, hc, hm, cur, hh, hsz, hr⟩ := hs
  have hlt : b < w.heap.size := (Array.getElem?_eq_some_iff.1 hh).1
  have hb1 : drop (tk t) g b = .none := drop_none hg
  have r2 := (h.forget (tk t)).tag1 b .imm hb1 hlt (h.mine b _ _ _ hg) (fun _ _ _ _ e => by cases e) (fun _ => ⟨_, _, hh⟩)
  have r3 := r2.putSlot t (.lf (.im true (.sl sz rows))) (by
    show SRep _ _ _ _
    rw [hv]
    refine hr.data hh hc _ (fun x hx => .inl ?_) (.inl (tag1_self ..))
    have : Imm (tag1 (drop (tk t) g) b .imm) true x := Imm.tag1 hb1 (drop_Imm.2 (.inl hx))
    exact this.sh)
  rw [upd_upd] at r3
  exact ⟨_, _, rfl, r3⟩

/-- A variable's slice becomes data, and so does a header onto it. -/
theorem turn_freeze2 {E : Env} {σ : St} (t t2 b c n e sz : Nat) (rows : List (List SV)) (hx : σ (tk t) = .lf (.u b c e sz rows)) (h2 : σ (tk t2) = .lf (.hd b n c)) (hn : n = rows.length) (hne : t ≠ t2) :
    Turn E σ (· = upd (upd σ (tk t) (.lf (.im true (.sl sz rows)))) (tk t2) (.lf (.im true (.sl sz rows)))) := by
  intro g w a h
  have hs := h.slot t
  have hs2 := h.slot t2
  rw [hx] at hs
  rw [h2] at hs2
  obtain ⟨hv, hg, hc, hm, cur, hh, hsz, hr⟩ := hs
  have hlt : b < w.heap.size := (Array.getElem?_eq_some_iff.1 hh).1
  have hb1 : drop (tk t) g b = .none := drop_none hg
  have r2 := (h.forget (tk t)).tag1 b .imm hb1 hlt (h.mine b _ _ _ hg) (fun _ _ _ _ e => by cases e) (fun _ => ⟨_, _, hh⟩)
  have hd : SRep (Imm (tag1 (drop (tk t) g) b .imm) true) w (.slice (some ⟨b, 0, none⟩) rows.length c) (.sl sz rows) := by
    refine hr.data hh hc _ (fun x hx => .inl ?_) (.inl (tag1_self ..))
    have : Imm (tag1 (drop (tk t) g) b .imm) true x := Imm.tag1 hb1 (drop_Imm.2 (.inl hx))
    exact this.sh
  have r3 := (r2.putSlot t (.lf (.im true (.sl sz rows))) (by show SRep _ _ _ _; rw [hv]; exact hd)).putSlot t2 (.lf (.im true (.sl sz rows))) (by
    show SRep _ _ _ _
    have e2 : a.tmps.getD t2 undef = .slice (some ⟨b, 0, none⟩) n c := hs2
    rw [e2, hn]; exact hd)
  rw [upd_upd] at r3
  exact ⟨_, _, rfl, r3⟩

theorem SRep.oneCell {S : Nat → Prop} {w : World} {v : Value} {x : SV} (h : SRep S w v x) : v.oneCell' = true := by
  cases h <;> rfl

theorem mul_add_lt {i j n sz : Nat} (hi : i < n) (hj : j < sz) : i * sz + j < n * sz := by
  have h1 : (i + 1) * sz ≤ n * sz := Nat.mul_le_mul_right _ hi
  have h2 : (i + 1) * sz = i * sz + sz := Nat.succ_mul i sz
  omega

/-- The cells of rows of data. -/
theorem SRep.cells {S : Nat → Prop} {w : World} {a : Option Addr} {m cap sz : Nat} {rows : List (List SV)} (h : SRep S w (.slice a m cap) (.sl sz rows)) (hne : rows ≠ []) (hsz : 0 < sz) :
    ∃ ad, a = some ad ∧ m = rows.length ∧ ∃ news : List Value, news.length = rows.length * sz ∧ (∀ (j : Nat) u, news[j]? = some u → w.cell? (ad.add j) = some u) ∧ (∀ u ∈ news, u.oneCell' = true) ∧
      ∀ i r j x, rows[i]? = some r → r[j]? = some x → ∃ y, news[i * sz + j]? = some y ∧ SRep S w y x := by
  generalize hx : SV.sl sz rows = x at h
  cases h with
  | nil sz' a cap => cases hx; exact absurd rfl hne
  | sl b off n cap sz' rows' cv hn hc hw hS hcell hrep =>
    cases hx
    have dm : ∀ k, k < rows.length * sz → ∃ r x, rows[k / sz]? = some r ∧ r[k % sz]? = some x ∧ k = k / sz * sz + k % sz := by
      intro k hk
      have h1 : k / sz < rows.length := Nat.div_lt_of_lt_mul (by rw [Nat.mul_comm]; exact hk)
      have h2 : k % sz < sz := Nat.mod_lt _ hsz
      have h3 := hw rows[k / sz] (List.getElem_mem h1)
      refine ⟨rows[k / sz], rows[k / sz][k % sz]'(by omega), List.getElem?_eq_getElem h1, List.getElem?_eq_getElem _, ?_⟩
      have := Nat.div_add_mod k sz
      rw [Nat.mul_comm] at this; omega
    refine ⟨⟨b, off, none⟩, rfl, hn, (List.range (rows.length * sz)).map cv, by simp, ?_, ?_, ?_⟩
    · intro k u hu
      simp only [List.getElem?_map, Option.map_eq_some_iff] at hu
      obtain ⟨k', hk', rfl⟩ := hu
      obtain ⟨hlt, e0⟩ := List.getElem?_eq_some_iff.1 hk'
      simp only [List.length_range] at hlt
      simp only [List.getElem_range] at e0
      subst e0
      obtain ⟨r, x, e1, e2, e3⟩ := dm k hlt
      rw [Addr.add_flat, e3]
      exact hcell _ _ _ _ e1 e2
    · intro u hu
      simp only [List.mem_map, List.mem_range] at hu
      obtain ⟨k, hk, rfl⟩ := hu
      obtain ⟨r, x, e1, e2, e3⟩ := dm k hk
      rw [e3]
      exact (hrep _ _ _ _ e1 e2).oneCell
    · intro i r j x h1 h2
      have hi := (List.getElem?_eq_some_iff.1 h1).1
      have hj := (List.getElem?_eq_some_iff.1 h2).1
      have hw' := hw r (List.mem_of_getElem? h1)
      refine ⟨cv (i * sz + j), ?_, hrep i r j x h1 h2⟩
      simp only [List.getElem?_map]
      rw [List.getElem?_range (mul_add_lt hi (by omega))]
      rfl
  | _ => cases hx

theorem run_append_zero {P : Program} {w : World} (t ty e : TypeId) (i : TypeInfo) (ht : P.underlying t = some (.slice e)) (hi : P.info? e = some i) (base : Option Addr) (n c : Nat) (hc : n ≤ c) (a : Option Addr) (cp : Nat) :
    (Builtin.append_ #[t, t] ty #[.slice base n c, .slice a 0 cp]).run P w = .ok (.slice base n c) w := by
  have hf : (Builtin.firstCells i.size 0 (.slice a 0 cp)).run P w = .ok #[] w := by
    cases a <;> simp [Builtin.firstCells, loadCells, loadCellsFrom]
  cases base <;> simp [Builtin.append_, run_underlying ht, sizeOf, typeInfo, hi, Builtin.lenOf, hc, hf, storeCells]

/-- What an element type's table says. -/
structure Elem (P : Program) (t e sz bytes : Nat) : Prop where
  und : P.underlying t = some (.slice e)
  ok : ∃ (i : TypeInfo) (z : Value), P.info? e = some i ∧ i.zero = some z ∧ i.size = sz ∧ i.bytes = bytes ∧ z.cells.size = sz
  pos : 0 < sz

/-- Rows of values that lie in no memory. -/
def ScalarRows (rows : List (List SV)) : Prop := ∀ r ∈ rows, ∀ x ∈ r, x.isVal = true
theorem ScalarRows.im {g : Nat → Tag} {w : World} {rows : List (List SV)} {sh : Bool} (h : sh = true ∨ ScalarRows rows) {i j : Nat} {r : List SV} {x : SV} {y : Value} (h1 : rows[i]? = some r) (h2 : r[j]? = some x) (hs : SRep (Imm g sh) w y x) : SRep (Imm g true) w y x := by
  rcases h with rfl | h
  · exact hs
  · exact hs.scal (h r (List.mem_of_getElem? h1) x (List.mem_of_getElem? h2))


/-- Rows behind rows. -/
theorem RowsIn.append {g : Nat → Tag} {w : World} {cur cur' : Array Value} {sz : Nat} {rows rows2 : List (List SV)} {news : List Value} (h : RowsIn g w cur sz rows) (hw : ∀ r ∈ rows2, r.length = sz)
    (hn : ∀ i r j x, rows2[i]? = some r → r[j]? = some x → ∃ y, news[i * sz + j]? = some y ∧ SRep (Imm g true) w y x) (hl : (cur.toList.take (rows.length * sz)).length = rows.length * sz)
    (hc : cur'.toList.take ((rows.length + rows2.length) * sz) = cur.toList.take (rows.length * sz) ++ news) : RowsIn g w cur' sz (rows ++ rows2) := by
  have get : ∀ k, k < (rows.length + rows2.length) * sz → cur'[k]? = (cur.toList.take (rows.length * sz) ++ news)[k]? := by
    intro k hk
    rw [← hc, List.getElem?_take, if_pos hk, Array.getElem?_toList]
  refine ⟨fun r hr => ?_, fun i r j x h1 h2 => ?_⟩
  · rcases List.mem_append.1 hr with hr | hr
    · exact h.1 r hr
    · exact hw r hr
  · have hj := (List.getElem?_eq_some_iff.1 h2).1
    by_cases hi : i < rows.length
    · rw [List.getElem?_append_left hi] at h1
      have hwd := h.1 r (List.mem_of_getElem? h1)
      obtain ⟨y, hy, hs⟩ := h.2 i r j x h1 h2
      refine ⟨y, ?_, hs⟩
      have hlt := mul_add_lt hi (show j < sz by omega)
      rw [get _ (by rw [Nat.add_mul]; omega), List.getElem?_append_left (by rw [hl]; exact hlt), List.getElem?_take, if_pos hlt, Array.getElem?_toList]
      exact hy
    · rw [List.getElem?_append_right (by omega)] at h1
      have hwd := hw r (List.mem_of_getElem? h1)
      have hi2 := (List.getElem?_eq_some_iff.1 h1).1
      obtain ⟨y, hy, hs⟩ := hn _ r j x h1 h2
      refine ⟨y, ?_, hs⟩
      have hlt := mul_add_lt hi2 (show j < sz by omega)
      have e1 : i * sz + j = rows.length * sz + ((i - rows.length) * sz + j) := by
        have : i = rows.length + (i - rows.length) := by omega
        rw [this, Nat.add_mul]; simp; omega
      rw [get _ (by rw [Nat.add_mul]; omega), List.getElem?_append_right (by rw [hl]; omega), hl, e1, Nat.add_sub_cancel_left]
      exact hy

/-- 'append' to an owned slice (of a temporary's own, or by a header onto a variable's) of rows of data. -/
theorem step_append {P : Program} {E : Env} {o : Oper} {σ : St} (d : Nat) (t ty e sz bytes : Nat) (x y : Operand) (kt b c : Nat) (rows rows2 : List (List SV))
    (ho : o.op = .call { callee := .builtin .append, args := #[x, y], argTypes := #[t, t] }) (hty : o.type = ty) (hd : o.dst = some d) (hn : d < E.n) (he : Elem P t e sz bytes)
    (hk : σ (tk kt) = .lf (.u b c e sz rows)) (hx : x = .tmp kt ∨ opd σ x = .lf (.hd b rows.length c)) {shy : Bool} (hy : opd σ y = .lf (.im shy (.sl sz rows2))) (hsc : shy = true ∨ ScalarRows rows2)
    (hsmall : (rows.length + rows2.length) * bytes ≤ 140737488355328) (hmax : rows.length + rows2.length ≤ maxLen) :
    Step P E o σ fun τ => ∃ b' c', τ = upd (upd σ (tk kt) Slot.hole) (tk d) (.lf (.u b' c' e sz (rows ++ rows2))) := by
  refine Step.of_run fun g w a h => ?_
  have hs := h.slot kt
  rw [hk] at hs
  have hvk : a.tmps.getD kt undef = .slice (some ⟨b, 0, none⟩) rows.length c := hs.1
  have hvx : a.eval x = .slice (some ⟨b, 0, none⟩) rows.length c := by
    rcases hx with rfl | hx
    · exact hvk
    · exact opd_hd h hx
  have hyr := opd_im h hy
  obtain ⟨ay, m, cy, hvy, hm, hcy⟩ := SRep.slice_form hyr
  rw [hvy] at hyr
  obtain ⟨i, z, hi, hz, hsz, hby, hzs⟩ := he.ok
  have hexec : execOp a.eval o = (do pure (Next.value (← Builtin.append_ #[t, t] o.type #[a.eval x, a.eval y])) : Sem Next) := by
    simp [execOp, ho, resolve, invoke, builtin]
  by_cases hempty : rows2 = []
  · subst hempty
    simp at hm
    subst hm
    have hrun := run_append_zero (P := P) (w := w) t o.type e i he.und hi (some ⟨b, 0, none⟩) rows.length c hs.2.2.1 ay cy
    obtain ⟨g', hr⟩ := h.moveU d (tk kt) 0 0 b c e sz rows (.slice (some ⟨b, 0, none⟩) rows.length c) hn (.inr trivial) ⟨rfl, hs.2⟩
    refine ⟨_, w, g', _, .inl ?_, ⟨b, c, rfl⟩, by rw [hd]; simpa using hr⟩
    rw [hexec, hvx, hvy, Sem.run_bind, hrun]; rfl
  · obtain ⟨ad, rfl, hm2, news, hnl, hnc, hn1, hnr⟩ := hyr.cells hempty he.pos
    obtain ⟨_, hg, hc, hmx, cur, hh, hcs, hr⟩ := hs
    have hlt : b < w.heap.size := (Array.getElem?_eq_some_iff.1 hh).1
    have htake : (cur.toList.take (rows.length * sz)).length = rows.length * sz := by
      rw [List.length_take, Array.length_toList (xs := cur), hcs]
      exact Nat.min_eq_left (Nat.mul_le_mul_right _ hc)
    have hown : w.ownsRow 0 e sz (.slice (some ⟨b, 0, none⟩) rows.length c) rows.length (cur.toList.take (rows.length * sz)) :=
      ⟨htake, .inr ⟨b, c, cur, rfl, Nat.zero_le _, hh, hc, hmx, hcs, rfl⟩⟩
    obtain ⟨v', w', hrun, hown', hgrow, hnil, hwhere⟩ := run_append_own_at (P := P) (w := w) 0 t o.type e i z sz bytes he.und hi hz hsz hby hzs he.pos _ rows.length _ hown ad m cy news (by rw [hnl, hm2]) hnc hn1 (by rw [hm2]; exact hmax) (by rw [hm2]; exact hsmall) (Nat.zero_le _)
    obtain ⟨hl', hform⟩ := hown'
    rcases hform with ⟨_, h0⟩ | ⟨b', c', cur', hv', _, hh', hc', hmx', hcs', htk'⟩
    · exfalso
      have : rows2.length ≠ 0 := fun e => hempty (List.length_eq_zero_iff.1 e)
      omega
    · have r1 := (h.forget (tk kt)).forget (tk d)
      have hb2 : drop (tk d) (drop (tk kt) g) b = .none := drop_of_none (drop_none hg)
      have hbl : Value.ownBlock (.slice (some ⟨b, 0, none⟩) rows.length c) = some b := rfl
      have r2 : Rel E (drop (tk d) (drop (tk kt) g)) w' a (upd (upd σ (tk kt) Slot.hole) (tk d) Slot.hole) := by
        refine r1.world hgrow.os hgrow.tape hgrow.output hgrow.size fun b0 hb0 => ?_
        by_cases e0 : b0 = b
        · subst e0; exact .inr ⟨hb2, h.mine b0 _ _ _ hg⟩
        · exact .inl (hgrow.block b0 hb0 (by rw [hbl]; intro e; cases e; exact e0 rfl))
      have hlt' : b' < w'.heap.size := (Array.getElem?_eq_some_iff.1 hh').1
      -- the new row's block is the elder one, or new
      have hb' : b' = b ∨ w.heap.size ≤ b' := by
        rw [hv'] at hwhere
        rcases hwhere with e | e
        · left; simp only [Value.ownBlock, Option.some.injEq] at e; exact e
        · right; simp only [Value.ownBlock, Option.some.injEq] at e; omega
      have hnone : drop (tk d) (drop (tk kt) g) b' = .none := by
        rcases hb' with rfl | hge
        · exact hb2
        · exact drop_of_none (drop_of_none (h.fresh b' hge))
      have r3 := r2.tag1 b' (.own (tk d) 0 0) hnone hlt' (by
        rcases hb' with rfl | hge
        · exact h.mine b' _ _ _ hg
        · left; have := h.size; omega) (fun b'' k' i' j' e => by cases e; exact drop_free _ _ _ _ _)
      have himm : ∀ sh x, Imm g sh x → Imm (tag1 (drop (tk d) (drop (tk kt) g)) b' (.own (tk d) 0 0)) sh x ∧ w'.heap[x]? = w.heap[x]? := by
        intro sh x hx
        refine ⟨Imm.tag1 hnone (drop_Imm.2 (drop_Imm.2 hx)), ?_⟩
        have hxl : x < w.heap.size := Nat.lt_of_not_le fun hle => by rcases hx with e | ⟨_, e⟩ <;> rw [h.fresh x hle] at e <;> cases e
        refine hgrow.block x hxl ?_
        rw [hbl]; intro e; cases e
        rcases hx with e | ⟨_, e⟩ <;> rw [hg] at e <;> cases e
      have hrows : RowsIn g w cur' sz (rows ++ rows2) := hr.append hyr.width (fun i r j x h1 h2 => let ⟨y, hy1, hy2⟩ := hnr i r j x h1 h2; ⟨y, hy1, ScalarRows.im hsc h1 h2 hy2⟩) htake (by rw [← hm2, htk'])
      have r4 := (r3.act d v' (upd_same ..)).putSlot d (.lf (.u b' c' e sz (rows ++ rows2))) (by
        rw [act_put_eq (by rw [h.many]; exact hn)]
        refine ⟨by rw [hv', List.length_append, ← hm2], tag1_self .., by rw [List.length_append, ← hm2]; exact hc', hmx', cur', hh', hcs', hrows.to himm⟩)
      rw [upd_upd] at r4
      refine ⟨v', w', _, _, .inl ?_, ⟨b', c', rfl⟩, by rw [hd]; exact r4⟩
      rw [hexec, hvx, hvy, Sem.run_bind, hrun]; rfl
end Go.Proofs.YtahciphhopiipaaGreatDoor.V
