/- Stores into owned slices; cuts of data; 'append' to nothing. -/
import Derived.Test.YtahciphhopiipaaGreatDoorV17
set_option linter.unusedVariables false
set_option linter.unusedSimpArgs false
namespace Go.Proofs.YtahciphhopiipaaGreatDoor.V
open Go Go.RowKit

def cutIn (r : List SV) (j : Nat) (new : List SV) : List SV := r.take j ++ new ++ r.drop (j + new.length)

theorem cutIn_length {r : List SV} {j : Nat} {new : List SV} (h : j + new.length ≤ r.length) : (cutIn r j new).length = r.length := by simp [cutIn]; omega

theorem cutIn_get {r : List SV} {j : Nat} {new : List SV} (h : j + new.length ≤ r.length) (k : Nat) : (cutIn r j new)[k]? = if k < j then r[k]? else if k < j + new.length then new[k - j]? else r[k]? := by
  unfold cutIn
  have ht : (r.take j).length = j := by rw [List.length_take]; omega
  by_cases h1 : k < j
  · rw [if_pos h1, List.append_assoc, List.getElem?_append_left (by omega), List.getElem?_take, if_pos h1]
  · rw [if_neg h1]
    by_cases h2 : k < j + new.length
    · rw [if_pos h2, List.append_assoc, List.getElem?_append_right (by omega), List.getElem?_append_left (by omega), ht]
    · rw [if_neg h2, List.getElem?_append_right (by simp; omega), List.getElem?_drop]
      congr 1
      simp; omega

theorem RowsIn.store {g : Nat → Tag} {w : World} {cur : Array Value} {sz : Nat} {rows : List (List SV)} (h : RowsIn g w cur sz rows) {i j : Nat} {r new : List SV} (hr : rows[i]? = some r) (hj : j + new.length ≤ sz)
    (cs : List Value) (hcs : cs.length = new.length) (hn : ∀ (k : Nat) y x, cs[k]? = some y → new[k]? = some x → SRep (Imm g true) w y x) (hcur : i * sz + sz ≤ cur.size) :
    RowsIn g w (cur.toList.take (i * sz + j) ++ cs ++ cur.toList.drop (i * sz + j + new.length)).toArray sz (rows.set i (cutIn r j new)) := by
  have hrl := h.1 r (List.mem_of_getElem? hr)
  have hil := (List.getElem?_eq_some_iff.1 hr).1
  have ht : (cur.toList.take (i * sz + j)).length = i * sz + j := by rw [List.length_take, Array.length_toList]; omega
  have get : ∀ k, (cur.toList.take (i * sz + j) ++ cs ++ cur.toList.drop (i * sz + j + new.length)).toArray[k]? = if k < i * sz + j then cur[k]? else if k < i * sz + j + new.length then cs[k - (i * sz + j)]? else cur[k]? := by
    intro k
    rw [List.getElem?_toArray]
    by_cases h1 : k < i * sz + j
    · rw [if_pos h1, List.append_assoc, List.getElem?_append_left (by omega), List.getElem?_take, if_pos h1, Array.getElem?_toList]
    · rw [if_neg h1]
      by_cases h2 : k < i * sz + j + new.length
      · rw [if_pos h2, List.append_assoc, List.getElem?_append_right (by omega), List.getElem?_append_left (by omega), ht]
      · rw [if_neg h2, List.getElem?_append_right (by rw [List.length_append, ht]; omega), List.getElem?_drop, List.length_append, ht, hcs, Array.getElem?_toList]
        congr 1; omega
  refine ⟨fun r' hr' => ?_, fun i' r' j' x h1 h2 => ?_⟩
  · rcases List.mem_or_eq_of_mem_set hr' with hr' | rfl
    · exact h.1 r' hr'
    · rw [cutIn_length (by omega)]; exact hrl
  · by_cases hi : i' = i
    · subst hi
      rw [List.getElem?_set_self hil] at h1
      cases h1
      rw [cutIn_get (by omega)] at h2
      rw [get]
      by_cases c1 : j' < j
      · rw [if_pos c1] at h2
        rw [if_pos (by omega)]
        exact h.2 i' r j' x hr h2
      · rw [if_neg c1] at h2
        rw [if_neg (by omega)]
        by_cases c2 : j' < j + new.length
        · rw [if_pos c2] at h2
          rw [if_pos (by omega), show i' * sz + j' - (i' * sz + j) = j' - j from by omega]
          have hlt : j' - j < cs.length := by omega
          exact ⟨_, List.getElem?_eq_getElem hlt, hn _ _ x (List.getElem?_eq_getElem hlt) h2⟩
        · rw [if_neg c2] at h2
          rw [if_neg (by omega)]
          exact h.2 i' r j' x hr h2
    · rw [List.getElem?_set_ne (fun e => hi e.symm)] at h1
      have hj' := (List.getElem?_eq_some_iff.1 h2).1
      have hw' := h.1 r' (List.mem_of_getElem? h1)
      rw [get]
      rcases Nat.lt_or_gt_of_ne hi with hlt | hgt
      · have := mul_add_lt hlt (show j' < sz by omega)
        rw [if_pos (by omega)]
        exact h.2 i' r' j' x h1 h2
      · have := Nat.mul_le_mul_right sz (show i + 1 ≤ i' from hgt)
        rw [Nat.succ_mul] at this
        rw [if_neg (by omega), if_neg (by omega)]
        exact h.2 i' r' j' x h1 h2

/-- Data is stored into an element of a variable's slice. -/
theorem step_store_u {P : Program} {E : Env} {o : Oper} {σ : St} (kt : Nat) (t e sz m : Nat) (x y : Operand) (b c i j off : Nat) (rows : List (List SV)) (r new : List SV) (p : Part)
    (ho : o.op = .store t x y) (hd : o.dst = none) (ht : (P.info? t).map (·.size) = some m) (hx : opd σ x = .lf (.ptr b off)) (hk : σ (tk kt) = .lf (.u b c e sz rows)) (hy : opd σ y = .one p)
    (hp : LeavesIs p.leaves new) (hm : new.length = m) (htold : p.told = true) (hr : rows[i]? = some r) (hoff : off = i * sz + j) (hj : j + m ≤ sz) :
    Step P E o σ (· = upd σ (tk kt) (.lf (.u b c e sz (rows.set i (cutIn r j new))))) := by
  subst hoff
  refine Step.of_run fun g w a h => ?_
  have hs := h.slot kt
  rw [hk] at hs
  obtain ⟨hv, hg, hc, hmx, cur, hh, hcs, hrows⟩ := hs
  have hyr := opd_rel h y
  rw [hy] at hyr
  have hpr : PartRel g w (opk y) 0 (a.eval y) p := hyr
  obtain ⟨hll, hget⟩ := hp.get
  have hbare : p.leaves.all Leaf.bare = true := by
    rw [List.all_eq_true]
    intro l hl
    obtain ⟨q, hq⟩ := List.mem_iff_getElem?.1 hl
    have hqlt := (List.getElem?_eq_some_iff.1 hq).1
    obtain ⟨l', h1, h2⟩ := hget (List.getElem?_eq_getElem (l := new) (i := q) (by omega))
    rw [hq] at h1
    cases h1
    cases l <;> first | rfl | exact h2.elim
  have hcells := hpr.cells hbare (fun l e => by subst e; exact LeafRel.oneCell (l := l) hpr htold)
  have hone : ∀ u ∈ (a.eval y).cells.toList, u.oneCell' = true := by
    intro u hu
    obtain ⟨q, hq⟩ := List.mem_iff_getElem?.1 hu
    have hq' : (a.eval y).cells[q]? = some u := by simpa using hq
    have hlt : q < p.leaves.length := by rw [← hcells.1]; exact (Array.getElem?_eq_some_iff.1 hq').1
    obtain ⟨l, h1, h2⟩ := hget (List.getElem?_eq_getElem (l := new) (i := q) (by omega))
    exact (LeafIs.rel (hcells.2 q l u h1 hq') h2).oneCell
  have hsz : (a.eval y).cells.size = m := by rw [hcells.1, hll, hm]
  have hil := (List.getElem?_eq_some_iff.1 hr).1
  have hfit : i * sz + sz ≤ cur.size := by
    rw [hcs]
    have := Nat.mul_le_mul_right sz (show i + 1 ≤ c by omega)
    rw [Nat.succ_mul] at this; exact this
  have hrun := run_storeVar (P := P) (w := w) ht b (i * sz + j) e cur (a.eval y) hh hsz (by omega) hone
  have hnew := hrows.store hr (new := new) (j := j) (by omega) (a.eval y).cells.toList (by rw [Array.length_toList, hsz, hm]) (fun q v z h1 h2 => by
    obtain ⟨l, h3, h4⟩ := hget h2
    exact LeafIs.rel (hcells.2 q l v h3 (by simpa using h1)) h4) hfit
  rw [hm] at hnew
  have hlt : b < w.heap.size := (Array.getElem?_eq_some_iff.1 hh).1
  have himm : ∀ sh q, Imm g sh q → Imm g sh q ∧ (w.setRow b (cur.toList.take (i * sz + j) ++ (a.eval y).cells.toList ++ cur.toList.drop (i * sz + j + m)).toArray).heap[q]? = w.heap[q]? := fun sh q hq =>
    ⟨hq, setRow_other _ _ _ _ fun e0 => by subst e0; rcases hq with e1 | ⟨_, e1⟩ <;> rw [hg] at e1 <;> cases e1⟩
  have hown : ∀ k i' j' q, g q = .own k i' j' → (k, i', j') ≠ (tk kt, 0, 0) → g q = .own k i' j' ∧ (w.setRow b (cur.toList.take (i * sz + j) ++ (a.eval y).cells.toList ++ cur.toList.drop (i * sz + j + m)).toArray).heap[q]? = w.heap[q]? := fun k i' j' q hq hne =>
    ⟨hq, setRow_other _ _ _ _ fun e0 => by subst e0; rw [hg] at hq; cases hq; exact hne rfl⟩
  refine ⟨undef, w.setRow b (cur.toList.take (i * sz + j) ++ (a.eval y).cells.toList ++ cur.toList.drop (i * sz + j + m)).toArray, g, _, .inr ⟨?_, rfl⟩, rfl, ?_⟩
  · simp only [execOp, ho, opd_ptr h hx, Instr.storeAt, Instr.sureAddr, Sem.run_bind, Sem.run_pure, Result.andThen_ok, hrun]
  · rw [hd]
    exact
      { defers := h.defers
        os := h.os
        tape := h.tape
        output := h.output
        size := by simpa [World.setRow] using h.size
        old := fun q hq hm' => by
          rw [setRow_other _ _ _ _ ?_]
          · exact h.old q hq hm'
          · intro e0; subst e0
            rcases h.mine q _ _ _ hg with e1 | e1
            · omega
            · exact hm' e1
        many := h.many
        slot := fun t' => by
          by_cases e0 : tk t' = tk kt
          · simp only [upd]; rw [if_pos e0]
            have e1 := tk_inj e0
            subst e1
            refine ⟨?_, hg, by rw [List.length_set]; exact hc, hmx, _, setRow_heap w b cur _ _ _ hh, ?_, hnew.to himm⟩
            · rw [List.length_set]; exact hv
            · simp; omega
          · simp only [upd]; rw [if_neg e0]
            refine (h.slot t').to himm fun q i' j' hq => hown _ i' j' q hq ?_
            intro e1
            exact e0 (congrArg Prod.fst e1)
        cell := fun t' => by
          simp only [upd]; rw [if_neg (tk_ck _ _).symm]
          refine (h.cell t').to himm fun q i' j' hq => hown _ i' j' q hq ?_
          intro e1
          exact tk_ck _ _ (congrArg Prod.fst e1).symm
        fresh := fun q hq => h.fresh q (by simpa [World.setRow] using hq)
        mine := h.mine
        uniq := h.uniq
        elder := h.elder
        soft := fun q hq e => (h.soft q hq e).to (setRow_other _ _ _ _ fun e0 => by subst e0; rw [hg] at e; cases e) }

/-- 'append' of rows of data to nothing. -/
theorem step_append_nil {P : Program} {E : Env} {o : Oper} {σ : St} (d : Nat) (t ty e sz bytes : Nat) (x y : Operand) (rows2 : List (List SV))
    (ho : o.op = .call { callee := .builtin .append, args := #[x, y], argTypes := #[t, t] }) (hty : o.type = ty) (hd : o.dst = some d) (hn : d < E.n) (he : Elem P t e sz bytes)
    (hx : opd σ x = .lf .nil) {shy : Bool} (hy : opd σ y = .lf (.im shy (.sl sz rows2))) (hsc : shy = true ∨ ScalarRows rows2) (hne : rows2 ≠ [])
    (hsmall : rows2.length * bytes ≤ 140737488355328) (hmax : rows2.length ≤ maxLen) : Step P E o σ fun τ => ∃ b' c', τ = upd σ (tk d) (.lf (.u b' c' e sz rows2)) := by
  refine Step.of_run fun g w a h => ?_
  have hvx := opd_nil h hx
  have hyr := opd_im h hy
  obtain ⟨ay, m, cy, hvy, hm, hcy⟩ := SRep.slice_form hyr
  rw [hvy] at hyr
  obtain ⟨i, z, hi, hz, hsz, hby, hzs⟩ := he.ok
  have hexec : execOp a.eval o = (do pure (Next.value (← Builtin.append_ #[t, t] o.type #[a.eval x, a.eval y])) : Sem Next) := by
    simp [execOp, ho, resolve, invoke, builtin]
  obtain ⟨ad, rfl, hm2, news, hnl, hnc, hn1, hnr⟩ := hyr.cells hne he.pos
  have hown : w.ownsRow 0 e sz (.slice none 0 0) 0 [] := World.ownsRow_nil w 0 e sz
  obtain ⟨v', w', hrun, hown', hgrow, hnil, hwhere⟩ := run_append_own_at (P := P) (w := w) 0 t o.type e i z sz bytes he.und hi hz hsz hby hzs he.pos _ 0 [] hown ad m cy news (by rw [hnl, hm2]) hnc hn1 (by rw [hm2]; omega) (by rw [hm2]; simpa using hsmall) (Nat.zero_le _)
  obtain ⟨hl', hform⟩ := hown'
  rcases hform with ⟨_, h0⟩ | ⟨b', c', cur', hv', _, hh', hc', hmx', hcs', htk'⟩
  · exfalso
    have : rows2.length ≠ 0 := fun e => hne (List.length_eq_zero_iff.1 e)
    omega
  · have hb' : b' = w.heap.size := by
      rw [hv'] at hwhere
      rcases hwhere with e0 | e0
      · simp [Value.ownBlock] at e0
      · simpa [Value.ownBlock] using e0
    subst hb'
    have hfr : g w.heap.size = .none := h.fresh _ (Nat.le_refl _)
    have r1 := (h.forget (tk d)).world hgrow.os hgrow.tape hgrow.output hgrow.size fun b0 hb0 => .inl (hgrow.block b0 hb0 (by intro e0; cases e0))
    have hb0 : drop (tk d) g w.heap.size = .none := drop_of_none hfr
    have hlt' : w.heap.size < w'.heap.size := (Array.getElem?_eq_some_iff.1 hh').1
    have r2 := r1.tag1 w.heap.size (.own (tk d) 0 0) hb0 hlt' (.inl h.size) (fun b' k' i' j' e => by cases e; exact drop_free _ _ _ _ _)
    have himm : ∀ sh x, Imm g sh x → Imm (tag1 (drop (tk d) g) w.heap.size (.own (tk d) 0 0)) sh x ∧ w'.heap[x]? = w.heap[x]? := by
      intro sh x hx
      refine ⟨Imm.tag1 hb0 (drop_Imm.2 hx), ?_⟩
      have hxl : x < w.heap.size := Nat.lt_of_not_le fun hle => by rcases hx with e | ⟨_, e⟩ <;> rw [h.fresh x hle] at e <;> cases e
      exact hgrow.block x hxl (by intro e0; cases e0)
    have hrows : RowsIn g w cur' sz ([] ++ rows2) := RowsIn.append (cur := #[]) (rows := []) ⟨(by intro r hr; cases hr), (by intro i r j x h1; simp at h1)⟩ hyr.width (fun i r j x h1 h2 => let ⟨y, hy1, hy2⟩ := hnr i r j x h1 h2; ⟨y, hy1, ScalarRows.im hsc h1 h2 hy2⟩) (by simp) (by simp; rw [← hm2]; simpa using htk')
    have r3 := (r2.act d v' (upd_same ..)).putSlot d (.lf (.u w.heap.size c' e sz rows2)) (by
      rw [act_put_eq (by rw [h.many]; exact hn)]
      refine ⟨by rw [hv', ← hm2]; simp, tag1_self .., by rw [← hm2]; omega, hmx', cur', hh', hcs', ?_⟩
      have := hrows.to himm
      simpa using this)
    rw [upd_upd] at r3
    refine ⟨v', w', _, _, .inl ?_, ⟨_, c', rfl⟩, by rw [hd]; exact r3⟩
    rw [hexec, hvx, hvy, Sem.run_bind, hrun]; rfl

/-- A bound of a cut. -/
def bnd (σ : St) : Option Operand → Option (Option Int)
  | none => some none
  | some x => match opd σ x with
    | .one (.lf (.im _ (.int _ n))) => some (some n)
    | _ => none

/-- A cut of data: no longer than it is. -/
theorem step_slice {P : Program} {E : Env} {o : Oper} {σ : St} (d : Nat) (t e sz : Nat) (x : Operand) (lo hi : Option Operand) (lv hv : Option Int) (rows : List (List SV)) (l hh : Nat) {sh : Bool}
    (ho : o.op = .slice t x lo hi none) (hd : o.dst = some d) (hn : d < E.n) (he : P.elem t = e ∧ P.underlying t = some (.slice e)) (hz : (P.info? e).map (·.size) = some sz)
    (hx : opd σ x = .lf (.im sh (.sl sz rows))) (h1 : bnd σ lo = some lv) (h2 : bnd σ hi = some hv) (hl : lv.getD 0 = (l : Int)) (hhv : hv.getD (rows.length : Int) = (hh : Int)) (hle : l ≤ hh) (hhle : hh ≤ rows.length) :
    Step P E o σ (· = upd σ (tk d) (.lf (.im sh (.sl sz ((rows.take hh).drop l))))) := by
  refine Step.of_run fun g w a h => ?_
  have hxr := opd_im h hx
  obtain ⟨ad, n, cap, e1, e2, hcap⟩ := SRep.slice_form hxr
  rw [e1] at hxr
  have hcut := hxr.cut l hh cap hle (by omega) (by omega) (Nat.le_refl _)
  have hund : P.underlying t = some (.slice (P.elem t)) := by rw [he.1]; exact he.2
  refine ⟨sliced ad l hh cap sz, w, drop (tk d) g, _, .inl ?_, rfl, ?_⟩
  · have hlo : ∀ v, lo = some v → ∃ k, a.eval v = .int k (l : Int) := by
      intro v hv0
      subst hv0
      simp only [bnd] at h1
      split at h1
      · rename_i sh' k n' hop
        cases h1
        simp at hl
        subst hl
        exact ⟨k, opd_int h hop⟩
      · cases h1
    have hlo0 : lo = none → l = 0 := by
      intro hv0; subst hv0; cases h1; simp at hl; omega
    have hhi : ∀ v, hi = some v → ∃ k, a.eval v = .int k (hh : Int) := by
      intro v hv0
      subst hv0
      simp only [bnd] at h2
      split at h2
      · rename_i sh' k n' hop
        cases h2
        simp at hhv
        subst hhv
        exact ⟨k, opd_int h hop⟩
      · cases h2
    have hhi0 : hi = none → hh = n := by
      intro hv0; subst hv0; cases h2; simp at hhv; omega
    have hz' : (sizeOf (P.elem t)).run P w = .ok sz w := by rw [he.1]; exact run_sizeOf hz
    simp only [execOp, ho, e1, Sem.run_bind]
    rw [run_sliceAt_slice w t _ _ _ _ hund]
    cases lo with
    | none =>
      have := hlo0 rfl
      subst this
      cases hi with
      | none =>
        have := hhi0 rfl
        subst this
        (try simp only [Option.map_none, Option.map_some]); rw [run_slice_all w t ad hh cap hund, hz']; rfl
      | some v =>
        obtain ⟨k, hk⟩ := hhi v rfl
        (try simp only [Option.map_none, Option.map_some]); rw [hk, run_slice_h w t ad n cap hund k hh (by omega) (by omega), hz']
        simp
    | some u =>
      obtain ⟨k1, hk1⟩ := hlo u rfl
      cases hi with
      | none =>
        have := hhi0 rfl
        subst this
        (try simp only [Option.map_none, Option.map_some]); rw [hk1, run_slice_l w t ad hh cap hund k1 l (by omega) (by omega), hz']
        simp
      | some v =>
        obtain ⟨k, hk⟩ := hhi v rfl
        (try simp only [Option.map_none, Option.map_some]); rw [hk, hk1, run_slice_lh w t ad n cap hund k1 k l hh (by omega) (by omega) (by omega), hz']
        simp
  · rw [hd]
    exact h.set d _ _ hn fun g' hg' => hcut.mono (fun _ _ => rfl) fun b hb => hg' _ _ hb
end Go.Proofs.YtahciphhopiipaaGreatDoor.V
