/- What operations do, computed: cells and slices that are made, struct values, lengths, cuts. -/
import Derived.Test.YtahciphhopiipaaGreatDoorX3
import Derived.Laws.IdiomStrings
set_option linter.unusedVariables false
set_option linter.unusedSimpArgs false
namespace Go.Proofs.YtahciphhopiipaaGreatDoor.V
open Go Go.RowKit

theorem map_ren_set {ν : Nm} {b : Nat} {v : Option (Nat × Nat)} {ls : List Leaf} (h : ls.any (Leaf.has b) = false) : ls.map (renL (setN ν (some b) v)) = ls.map (renL ν) := by
  rw [List.any_eq_false] at h
  exact List.map_congr_left fun l hl => renL_set (by simpa using h l hl)

theorem setN_self {ν : Nm} {b : Nat} {v : Option (Nat × Nat)} : setN ν (some b) v b = v := by simp [setN]

def xBox (d : Nat) (x : Operand) (L : SL) : Option Ex :=
  match ox L x with
  | .one p => bif p.leaves.all Leaf.bare && (p.told && !p.leaves.any (Leaf.has d)) then some ⟨ok x, [(ck d, .cell d p.leaves), (tk d, .lf (.ptr d 0))], some d, []⟩ else none
  | _ => none

theorem xBox_sound {P : Program} {E : Env} {o : Oper} {e : TypeId} {d : Nat} {x : Operand} {L : SL} {ex : Ex} (ho : o.op = .box e x) (hd : o.dst = some d) (hn : d < E.n)
    (he : xBox d x L = some ex) : SoundOp P E o L ex := by
  unfold xBox at he
  split at he
  · rename_i p hx
    cases hb : p.leaves.all Leaf.bare && (p.told && !p.leaves.any (Leaf.has d)) with
    | false => rw [hb] at he; cases he
    | true =>
      rw [hb] at he
      cases he
      rw [Bool.and_eq_true, Bool.and_eq_true] at hb
      obtain ⟨h1, h2, h3⟩ := hb
      have h3' : p.leaves.any (Leaf.has d) = false := by simpa using h3
      intro _ ν τ hτ
      have h := opd_is hτ (by simp) hx
      simp only [renS] at h
      refine (step_box d e x (renP ν p) ho hd hn h (by rw [renP_leaves]; exact all_bare_ren h1) (renP_told h2)).mono fun τ' ⟨b, hb⟩ => ⟨some (b, 0), ?_⟩
      subst hb
      simp only [renW, List.map, updL, renS, renP, renL, setN_self, Slot.lf]
      rw [map_ren_set h3', ← renP_leaves]
      exact Weak.refl _
  · cases he

theorem zero_ren {P : Program} {t : TypeId} {i : TI} (h : TyOK P t i) (ν : Nm) : i.zero.map (renL ν) = i.zero := by
  obtain ⟨z, _, _, hz, _⟩ := h.info
  rw [← hz, List.map_map]
  exact List.map_congr_left fun v _ => litLeaf_ren ν v

def xAlloc (T : Tab) (t : TypeId) (d : Nat) (L : SL) : Option Ex :=
  match T.get t with
  | none => none
  | some ti => bif ti.zero.all Leaf.bare then some ⟨[], [(ck d, .cell d ti.zero), (tk d, .lf (.ptr d 0))], some d, []⟩ else none

theorem xAlloc_sound {P : Program} {E : Env} {o : Oper} {T : Tab} {t : TypeId} {d : Nat} {L : SL} {ex : Ex} (hT : TabOK P T) (ho : o.op = .alloc t) (hd : o.dst = some d) (hn : d < E.n)
    (he : xAlloc T t d L = some ex) : SoundOp P E o L ex := by
  unfold xAlloc at he
  split at he
  · cases he
  · rename_i ti hti
    have hty := hT.get hti
    cases hb : ti.zero.all Leaf.bare with
    | false => rw [hb] at he; cases he
    | true =>
      rw [hb] at he
      cases he
      intro _ ν τ hτ
      obtain ⟨z, h1, h2, h3, _⟩ := hty.info
      refine (step_alloc d t ti.zero ho hd hn (Zeros.of h1 h3) hb).mono fun τ' ⟨b, hb⟩ => ⟨some (b, 0), ?_⟩
      subst hb
      simp only [renW, List.map, updL, renS, renP, renL, setN_self, Slot.lf]
      rw [zero_ren hty]
      exact Weak.refl _

/-- The parts of a literal. -/
def litX (L : SL) : List (Nat × Operand) → Option (List (Nat × Part))
  | [] => some []
  | (i, x) :: xs => match ox L x, litX L xs with
    | .one p, some ps => some ((i, p) :: ps)
    | _, _ => none
def oks : List (Nat × Operand) → List Nat
  | [] => []
  | (_, x) :: xs => ok x ++ oks xs

theorem litX_parts {ν : Nm} {L : SL} {τ : St} {R : List Nat} (hτ : ∀ k ∈ R, τ k = den ν L k) : ∀ {xs : List (Nat × Operand)} {ps : List (Nat × Part)}, (∀ k ∈ oks xs, k ∈ R) → litX L xs = some ps →
    litParts τ xs = some (ps.map fun q => (q.1, renP ν q.2))
  | [], ps, _, h => by cases h; rfl
  | (i, x) :: xs, ps, hR, h => by
    simp only [litX] at h
    split at h
    · rename_i p ps' h1 h2
      cases h
      have e1 := opd_is hτ (fun k hk => hR k (by simp [oks, hk])) h1
      have e2 := litX_parts hτ (fun k hk => hR k (by simp [oks, hk])) h2
      simp only [litParts, e1, e2, renS]
      rfl
    · cases h

theorem fillL_ren {ν : Nm} (place : Nat → Option (Nat × Nat)) : ∀ (ps : List (Nat × Part)) (ls ls' : List Leaf), fillL place ls ps = some ls' →
    fillL place (ls.map (renL ν)) (ps.map fun q => (q.1, renP ν q.2)) = some (ls'.map (renL ν))
  | [], ls, ls', h => by cases h; rfl
  | (i, p) :: ps, ls, ls', h => by
    simp only [fillL] at h
    simp only [List.map_cons, fillL]
    cases hp : place i with
    | none => rw [hp] at h; cases h
    | some q =>
      rw [hp] at h
      simp only at h ⊢
      split at h
      · rename_i hc
        rw [if_pos ⟨by rw [renP_leaves, List.length_map]; exact hc.1, by rw [List.length_map]; exact hc.2.1, by rw [renP_leaves]; exact all_bare_ren hc.2.2.1, renP_told hc.2.2.2⟩]
        have := fillL_ren (ν := ν) place ps _ _ h
        rw [map_splice] at this
        rw [renP_leaves]
        exact this
      · cases h

def xBuild (T : Tab) (t : TypeId) (d : Nat) (parts : List (Nat × Operand)) (L : SL) (w : Option Wit) : Option Ex :=
  match T.get t with
  | none => none
  | some ti => match ti.sh, litX L parts with
    | .st fs, some ps => match fillL (fun (i : Nat) => fs[i]?) ti.zero ps with
      | some ls => bif ls.all Leaf.bare then fin1 d (oks parts) (.agg ls) [] w else none
      | none => none
    | _, _ => none

theorem xBuild_sound {P : Program} {E : Env} {o : Oper} {T : Tab} {t : TypeId} {d : Nat} {parts : Array (Nat × Operand)} {L : SL} {w : Option Wit} {ex : Ex} (hT : TabOK P T) (ho : o.op = .build t parts) (hd : o.dst = some d) (hn : d < E.n)
    (he : xBuild T t d parts.toList L w = some ex) : SoundOp P E o L ex := by
  unfold xBuild at he
  split at he
  · cases he
  · rename_i ti hti
    have hty := hT.get hti
    split at he
    · rename_i fs ps hsh hps
      split at he
      · rename_i ls hls
        cases hb : ls.all Leaf.bare with
        | false => rw [hb] at he; cases he
        | true =>
          rw [hb] at he
          refine sound_fin he fun _ ν τ hτ => ?_
          have h1 := litX_parts hτ (fun k hk => hk) hps
          have h2 := fillL_ren (ν := ν) _ _ _ _ hls
          rw [zero_ren hty] at h2
          have h3 := hty.sh
          rw [hsh] at h3
          simp only [renS, renP, Slot.agg]
          exact step_build d t parts fs ti.zero _ _ ho hd hn h3.2 h1 h2 (all_bare_ren hb)
      · cases he
    · cases he

/-- Data in rows. -/
def chunks (sz : Nat) : Nat → List SV → List (List SV)
  | 0, _ => []
  | n + 1, l => l.take sz :: chunks sz n (l.drop sz)

theorem chunks_spec {sz : Nat} : ∀ {n : Nat} {l : List SV}, l.length = n * sz → (chunks sz n l).flatten = l ∧ (chunks sz n l).length = n ∧ ∀ r ∈ chunks sz n l, r.length = sz
  | 0, l, h => by
    have : l = [] := List.length_eq_zero_iff.1 (by simpa using h)
    subst this
    exact ⟨rfl, rfl, by intro r hr; cases hr⟩
  | n + 1, l, h => by
    rw [Nat.succ_mul] at h
    obtain ⟨h1, h2, h3⟩ := chunks_spec (sz := sz) (n := n) (l := l.drop sz) (by rw [List.length_drop]; omega)
    refine ⟨by simp [chunks, h1], by simp [chunks, h2], fun r hr => ?_⟩
    simp only [chunks, List.mem_cons] at hr
    rcases hr with rfl | hr
    · rw [List.length_take]; omega
    · exact h3 r hr

/-- How what is new is given: as an owned slice, or as shared data. -/
def newU (d : Nat) (R : List Nat) (pre : SL) (nm e sz : Nat) (rows : List (List SV)) (c : List Prop) (w : Option Wit) : Option Ex :=
  match w with
  | some .im => some ⟨R, pre ++ [(tk d, .lf (.im true (.sl sz rows)))], none, c⟩
  | some (.slot (.one (.lf (.u b 0 e' sz' rows')))) => bif Nat.beq b nm && (Nat.beq e' e && Nat.beq sz' sz) then some ⟨R, pre ++ [(tk d, .lf (.u nm 0 e sz rows'))], some nm, (rows = rows') :: c⟩ else none
  | some (.slot (.one (.lf (.im true (.sl sz' rows'))))) => bif Nat.beq sz' sz then some ⟨R, pre ++ [(tk d, .lf (.im true (.sl sz rows')))], none, (rows = rows') :: c⟩ else none
  | none => some ⟨R, pre ++ [(tk d, .lf (.u nm 0 e sz rows))], some nm, c⟩
  | _ => none

theorem newU_sound {P : Program} {E : Env} {o : Oper} {L : SL} {d : Nat} {R : List Nat} {nm e sz : Nat} {rows : List (List SV)} {c : List Prop} {w : Option Wit} {ex : Ex}
    (he : newU d R [] nm e sz rows c w = some ex)
    (h : AllP c → ∀ (ν : Nm) (τ : St), (∀ k ∈ R, τ k = den ν L k) → Step P E o τ fun τ' => ∃ b c, τ' = upd τ (tk d) (.lf (.u b c e sz rows))) : SoundOp P E o L ex := by
  unfold newU at he
  split at he
  · cases he
    refine SoundOp.plain fun hc ν τ hτ => ?_
    simp only [List.nil_append, renW, List.map, updL, renS, renP, renL, Slot.lf]
    exact (h hc ν τ hτ).frozen
  · rename_i b e' sz' rows'
    cases hb : Nat.beq b nm && (Nat.beq e' e && Nat.beq sz' sz) with
    | false => rw [hb] at he; cases he
    | true =>
      rw [hb] at he
      cases he
      intro hc ν τ hτ
      have hrows := hc.1
      subst hrows
      refine (h hc.2 ν τ hτ).mono fun τ' ⟨b, c, hb⟩ => ⟨some (b, c), ?_⟩
      subst hb
      simp only [List.nil_append, renW, List.map, updL, renS, renP, renL, setN_self, Slot.lf]
      exact Weak.refl _
  · rename_i sz' rows'
    cases hb : Nat.beq sz' sz with
    | false => rw [hb] at he; cases he
    | true =>
      rw [hb] at he
      cases he
      refine SoundOp.plain fun hc ν τ hτ => ?_
      have hrows := hc.1
      subst hrows
      simp only [List.nil_append, renW, List.map, updL, renS, renP, renL, Slot.lf]
      exact (h hc.2 ν τ hτ).frozen
  · cases he
    intro hc ν τ hτ
    refine (h hc ν τ hτ).mono fun τ' ⟨b, c, hb⟩ => ⟨some (b, c), ?_⟩
    subst hb
    simp only [List.nil_append, renW, List.map, updL, renS, renP, renL, setN_self, Slot.lf]
    exact Weak.refl _
  · cases he

theorem TyOK.elem {P : Program} {t e : TypeId} {i j : TI} (h : TyOK P t i) (hs : i.sh = .sl e) (he : TyOK P e j) : Elem P t e j.size j.bytes := by
  have h1 := h.sh
  rw [hs] at h1
  obtain ⟨z, h2, h3, _⟩ := he.info
  exact Elem.of h1.1 h2 h3 he.pos

def xBuildSlice (T : Tab) (t : TypeId) (d n : Nat) (parts : List (Nat × Operand)) (L : SL) (w : Option Wit) : Option Ex :=
  match T.get t with
  | none => none
  | some ti => match ti.sh with
    | .sl e => match T.get e, litX L parts with
      | some te, some ps => match fillL (fun i => some (i * te.size, te.size)) (List.replicate (n * te.size) .hole) ps with
        | some ls => match isNew ls (List.replicate n te.zsv).flatten with
          | some new => bif Nat.ble (n * te.size) (2 ^ 24) && Nat.beq new.length (n * te.size) then newU d (oks parts) [] d e te.size (chunks te.size n new) [] w else none
          | none => none
        | none => none
      | _, _ => none
    | _ => none

theorem xBuildSlice_sound {P : Program} {E : Env} {o : Oper} {T : Tab} {t : TypeId} {d n : Nat} {parts : Array (Nat × Operand)} {L : SL} {w : Option Wit} {ex : Ex} (hT : TabOK P T) (ho : o.op = .buildSlice t n parts) (hd : o.dst = some d) (hn : d < E.n)
    (he : xBuildSlice T t d n parts.toList L w = some ex) : SoundOp P E o L ex := by
  unfold xBuildSlice at he
  split at he
  · cases he
  · rename_i ti hti
    split at he
    · rename_i e hsh
      split at he
      · rename_i te ps hte hps
        have hel := (hT.get hti).elem hsh (hT.get hte)
        split at he
        · rename_i ls hls
          split at he
          · rename_i new hnew
            cases hb : Nat.ble (n * te.size) (2 ^ 24) && Nat.beq new.length (n * te.size) with
            | false => rw [hb] at he; cases he
            | true =>
              rw [hb] at he
              rw [Bool.and_eq_true] at hb
              obtain ⟨c1, c2, c3⟩ := chunks_spec (Nat.eq_of_beq_eq_true hb.2)
              refine newU_sound he fun _ ν τ hτ => ?_
              have h1 := litX_parts hτ (fun k hk => hk) hps
              have h2 := fillL_ren (ν := ν) _ _ _ _ hls
              rw [List.map_replicate] at h2
              refine (step_buildSlice d t e te.size te.bytes n parts _ _ (chunks te.size n new) ho hd hn hel (Nat.le_of_ble_eq_true hb.1) h1 h2 c3 (by rw [c1]; exact isNew_is hnew) c2).mono fun τ' ⟨b, hb⟩ => ⟨b, n, hb⟩
          · cases he
        · cases he
      · cases he
    · cases he

theorem TyOK.zero0 {P : Program} {t : TypeId} {i : TI} (h : TyOK P t i) (hz : i.zsv.isEmpty = false) : Zero P t i.size i.zsv := by
  obtain ⟨z, h1, h2, h3, h4⟩ := h.info
  rcases h4 with h4 | ⟨h4, h5⟩
  · rw [h4] at hz; cases hz
  · exact Zero.of h1 h2 h4 h5

def xMakeSlice (T : Tab) (t : TypeId) (d : Nat) (x y : Operand) (L : SL) (w : Option Wit) : Option Ex :=
  match T.get t with
  | none => none
  | some ti => match ti.sh with
    | .sl e => match T.get e with
      | some te => match ox L x, ox L y with
        | .one (.lf (.im _ (.int .i64 (.ofNat n)))), .one (.lf (.im _ (.int .i64 (.ofNat m)))) =>
          bif te.zsv.isEmpty then none else newU d (ok x ++ ok y) [] d e te.size (List.replicate n te.zsv) [m = n, te.bytes * n ≤ 281474976710656, n ≤ maxLen] w
        | _, _ => none
      | none => none
    | _ => none

theorem xMakeSlice_sound {P : Program} {E : Env} {o : Oper} {T : Tab} {t : TypeId} {d : Nat} {x y : Operand} {L : SL} {w : Option Wit} {ex : Ex} (hT : TabOK P T) (ho : o.op = .makeSlice t x y) (hd : o.dst = some d) (hn : d < E.n)
    (he : xMakeSlice T t d x y L w = some ex) : SoundOp P E o L ex := by
  unfold xMakeSlice at he
  split at he
  · cases he
  · rename_i ti hti
    split at he
    · rename_i e hsh
      split at he
      · rename_i te hte
        have hel := (hT.get hti).elem hsh (hT.get hte)
        split at he
        · rename_i s1 n s2 m hx hy
          cases hz : te.zsv.isEmpty with
          | true => rw [hz] at he; cases he
          | false =>
            rw [hz] at he
            refine newU_sound he fun hc ν τ hτ => ?_
            obtain ⟨hm, hby, hmx, _⟩ := hc
            subst hm
            exact (step_makeSlice d t e te.size te.bytes x y m te.zsv ho hd hn hel ((hT.get hte).zero0 hz) (im_den hτ (fun k hk => by simp [hk]) hx) (im_den hτ (fun k hk => by simp [hk]) hy) hby hmx).mono fun τ' ⟨b, hb⟩ => ⟨b, m, hb⟩
        · cases he
      · cases he
    · cases he

def xExtract (d : Nat) (x : Operand) (i : Nat) (L : SL) (w : Option Wit) : Option Ex :=
  match ox L x with
  | .tup ps => match ps[i]? with
    | some p => bif p.bare then fin1 d (ok x) (.one p) [] w else none
    | none => none
  | _ => none

theorem xExtract_sound {P : Program} {E : Env} {o : Oper} {d i : Nat} {x : Operand} {L : SL} {w : Option Wit} {ex : Ex} (ho : o.op = .extract x i) (hd : o.dst = some d) (hn : d < E.n)
    (he : xExtract d x i L w = some ex) : SoundOp P E o L ex := by
  unfold xExtract at he
  split at he
  · rename_i ps hx
    split at he
    · rename_i p hp
      cases hb : p.bare with
      | false => rw [hb] at he; cases he
      | true =>
        rw [hb] at he
        refine sound_fin he fun _ ν τ hτ => ?_
        have h := opd_is hτ (by simp) hx
        simp only [renS] at h
        exact step_extract d x i _ _ ho hd hn h (by rw [List.getElem?_map, hp]; rfl) (renP_bare hb)
    · cases he
  · cases he

def xNilCheck (d : Nat) (x : Operand) (L : SL) (w : Option Wit) : Option Ex :=
  match ox L x with
  | .one (.lf (.ptr b off)) => fin1 d (ok x) (.lf (.ptr b off)) [] w
  | .one (.lf (.sref sh r)) => fin1 d (ok x) (.lf (.sref sh r)) [] w
  | _ => none

theorem xNilCheck_sound {P : Program} {E : Env} {o : Oper} {d : Nat} {x : Operand} {L : SL} {w : Option Wit} {ex : Ex} (ho : o.op = .nilCheck x) (hd : o.dst = some d) (hn : d < E.n)
    (he : xNilCheck d x L w = some ex) : SoundOp P E o L ex := by
  unfold xNilCheck at he
  split at he
  · rename_i b off hx
    refine sound_fin he fun _ ν τ hτ => ?_
    have h := opd_is hτ (by simp) hx
    simp only [renS, renP, renL, Slot.lf] at h ⊢
    cases hν : ν b with
    | none => rw [hν] at h; exact Step.absurd fun g w a hr => bad_opd hr h
    | some q => rw [hν] at h; exact step_nilCheck_ptr d q.1 off x ho hd hn h
  · rename_i sh r hx
    refine sound_fin he fun _ ν τ hτ => ?_
    have h := opd_is hτ (by simp) hx
    exact step_nilCheck_sref d sh r x ho hd hn h
  · cases he

def Sh.isInt : Sh → Option IntKind
  | .int k => some k
  | _ => none

def xConvert (T : Tab) (t t' : TypeId) (d : Nat) (x : Operand) (L : SL) (w : Option Wit) : Option Ex :=
  match T.get t, T.get t' with
  | some ti, some tj => match ti.sh, tj.sh, ox L x with
    | .int _, .int k', .one (.lf (.im _ (.int k n))) => fin1 d (ok x) (.im (.int k' (k'.wrap n))) [] w
    | _, _, _ => none
  | _, _ => none

theorem xConvert_sound {P : Program} {E : Env} {o : Oper} {T : Tab} {t t' : TypeId} {d : Nat} {x : Operand} {L : SL} {w : Option Wit} {ex : Ex} (hT : TabOK P T) (ho : o.op = .convert t t' x) (hd : o.dst = some d) (hn : d < E.n)
    (he : xConvert T t t' d x L w = some ex) : SoundOp P E o L ex := by
  unfold xConvert at he
  split at he
  · rename_i ti tj hti htj
    split at he
    · rename_i k0 k' sh k n h1 h2 hx
      have e1 := (hT.get hti).sh
      have e2 := (hT.get htj).sh
      rw [h1] at e1
      rw [h2] at e2
      exact sound_fin he fun _ ν τ hτ => step_convert_int d t t' k k' (.int k0) x n _ ho hd hn e1 e2 (im_den hτ (by simp) hx) rfl
    · cases he
  · cases he

def xLen (T : Tab) (t : TypeId) (d : Nat) (x : Operand) (L : SL) (w : Option Wit) : Option Ex :=
  match T.get t with
  | none => none
  | some ti => match ti.sh, ox L x with
    | .str, .one (.lf (.im _ (.str s))) => fin1 d (ok x) (.int s.size) [] w
    | .sl e, .one (.lf (.im _ (.sl _ rows))) => fin1 d (ok x) (.int rows.length) [] w
    | .sl e, .one (.lf (.u b c e' sz rows)) => fin1 d (ok x) (.int rows.length) [] w
    | .sl e, .one (.lf (.hd b n c)) => fin1 d (ok x) (.int n) [] w
    | .sl e, .one (.lf .nil) => fin1 d (ok x) (.int 0) [] w
    | _, _ => none

theorem xLen_sound {P : Program} {E : Env} {o : Oper} {T : Tab} {t : TypeId} {d : Nat} {x : Operand} {L : SL} {w : Option Wit} {ex : Ex} (hT : TabOK P T)
    (ho : o.op = .call { callee := .builtin .len, args := #[x], argTypes := #[t] }) (hd : o.dst = some d) (hn : d < E.n)
    (he : xLen T t d x L w = some ex) : SoundOp P E o L ex := by
  unfold xLen at he
  split at he
  · cases he
  · rename_i ti hti
    have hsh := (hT.get hti).sh
    split at he
    · rename_i sh s h1 hx
      rw [h1] at hsh
      exact sound_fin he fun _ ν τ hτ => step_len_str d t x s ho hd hn hsh (im_den hτ (by simp) hx)
    · rename_i e sh sz rows h1 hx
      rw [h1] at hsh
      exact sound_fin he fun _ ν τ hτ => step_len d t e x _ _ ho hd hn hsh.1 (im_den hτ (by simp) hx) rfl
    · rename_i e b c e' sz rows h1 hx
      rw [h1] at hsh
      refine sound_fin he fun _ ν τ hτ => ?_
      have h := opd_is hτ (by simp) hx
      simp only [renS, renP, renL] at h
      cases hν : ν b with
      | some q => rw [hν] at h; exact step_len d t e x _ _ ho hd hn hsh.1 h rfl
      | none =>
        rw [hν] at h
        cases rows with
        | nil => exact step_len d t e x _ _ ho hd hn hsh.1 h rfl
        | cons r rs => exact Step.absurd fun g w a hr => bad_opd hr h
    · rename_i e b n c h1 hx
      rw [h1] at hsh
      refine sound_fin he fun _ ν τ hτ => ?_
      have h := opd_is hτ (by simp) hx
      simp only [renS, renP, renL] at h
      cases hν : ν b with
      | some q => rw [hν] at h; exact step_len d t e x _ _ ho hd hn hsh.1 h rfl
      | none =>
        rw [hν] at h
        simp only at h
        by_cases hn0 : n = 0
        · subst hn0
          exact step_len d t e x _ _ ho hd hn hsh.1 h rfl
        · rw [if_neg hn0] at h
          exact Step.absurd fun g w a hr => bad_opd hr h
    · rename_i e h1 hx
      rw [h1] at hsh
      refine sound_fin he fun _ ν τ hτ => ?_
      have h := opd_is hτ (by simp) hx
      exact step_len d t e x _ _ ho hd hn hsh.1 h rfl
    · cases he

def xIndex (T : Tab) (t : TypeId) (d : Nat) (x y : Operand) (L : SL) (w : Option Wit) : Option Ex :=
  match T.get t with
  | none => none
  | some ti => match ti.sh, ox L x, ox L y, w with
    | .str, .one (.lf (.im _ (.str s))), .one (.lf (.im _ (.int k i))), some (.byte c) => some ⟨ok x ++ ok y, [(tk d, .im (.int .u8 (c.toNat : Int)))], none, [0 ≤ i, s.data.toList[i.toNat]? = some c]⟩
    | _, _, _, _ => none

theorem xIndex_sound {P : Program} {E : Env} {o : Oper} {T : Tab} {t : TypeId} {d : Nat} {x y : Operand} {L : SL} {w : Option Wit} {ex : Ex} (hT : TabOK P T) (ho : o.op = .index t x y) (hd : o.dst = some d) (hn : d < E.n)
    (he : xIndex T t d x y L w = some ex) : SoundOp P E o L ex := by
  unfold xIndex at he
  split at he
  · cases he
  · rename_i ti hti
    have hsh := (hT.get hti).sh
    split at he
    · rename_i s1 s s2 k i c h1 hx hy
      rw [h1] at hsh
      cases he
      refine SoundOp.plain fun hc ν τ hτ => ?_
      exact step_index_str d t x y s k i c ho hd hn hsh (im_den hτ (fun k hk => by simp [hk]) hx) (im_den hτ (fun k hk => by simp [hk]) hy) hc.1 hc.2.1
    · cases he

/-- A bound of a cut, and what it is to be. -/
def bndX (L : SL) (dflt : Nat) (n : Nat) : Option Operand → Option (List Prop)
  | none => some [dflt = n]
  | some x => match ox L x with
    | .one (.lf (.im _ (.int _ i))) => some [i = (n : Int)]
    | _ => none
def okO : Option Operand → List Nat
  | none => []
  | some x => ok x

theorem bndX_spec {ν : Nm} {L : SL} {τ : St} {R : List Nat} {dflt n : Nat} {x : Option Operand} {c : List Prop} (hτ : ∀ k ∈ R, τ k = den ν L k) (hR : ∀ k ∈ okO x, k ∈ R) (h : bndX L dflt n x = some c) (hc : AllP c) :
    ∃ v, bnd τ x = some v ∧ v.getD (dflt : Int) = (n : Int) := by
  cases x with
  | none => cases h; exact ⟨none, rfl, by have := hc.1; simp [this]⟩
  | some x =>
    simp only [bndX] at h
    split at h
    · rename_i sh k i hx
      cases h
      have h1 := im_den hτ hR hx
      exact ⟨some i, by simp only [bnd, h1], by simpa using hc.1⟩
    · cases h

def xSlice (T : Tab) (t : TypeId) (d : Nat) (x : Operand) (lo hi mx : Option Operand) (L : SL) (w : Option Wit) : Option Ex :=
  match T.get t, w with
  | some ti, some (.cut l h s) => match ti.sh, ox L x, mx with
    | .str, .one (.lf (.im _ (.str b))), none => match bndX L 0 l lo, bndX L b.size h hi with
      | some c1, some c2 => some ⟨ok x ++ (okO lo ++ okO hi), [(tk d, s)], none, [AllP c1, AllP c2, l ≤ h, h ≤ b.size, (.im (.str (b.extract l h)) : Slot) = s]⟩
      | _, _ => none
    | .sl e, .one (.lf (.im sh (.sl sz rows))), none => match T.get e, bndX L 0 l lo, bndX L rows.length h hi with
      | some te, some c1, some c2 => bif Nat.beq sz te.size then some ⟨ok x ++ (okO lo ++ okO hi), [(tk d, s)], none, [AllP c1, AllP c2, l ≤ h, h ≤ rows.length, (.lf (.im sh (.sl sz ((rows.take h).drop l))) : Slot) = s]⟩ else none
      | _, _, _ => none
    | .sl e, .one (.lf (.im sh (.sl sz rows))), some m => match T.get e, lo, hi, ox L m with
      | some te, none, some y, .one (.lf (.im _ (.int _ j))) => match ox L y with
        | .one (.lf (.im _ (.int _ i))) => bif Nat.beq sz te.size then some ⟨ok x ++ (ok y ++ ok m), [(tk d, s)], none, [i = (h : Int), j = (l : Int), h ≤ l, l ≤ rows.length, (.lf (.im sh (.sl sz (rows.take h))) : Slot) = s]⟩ else none
        | _ => none
      | _, _, _, _ => none
    | _, _, _ => none
  | _, _ => none

theorem xSlice_sound {P : Program} {E : Env} {o : Oper} {T : Tab} {t : TypeId} {d : Nat} {x : Operand} {lo hi mx : Option Operand} {L : SL} {w : Option Wit} {ex : Ex} (hT : TabOK P T) (ho : o.op = .slice t x lo hi mx) (hd : o.dst = some d) (hn : d < E.n)
    (he : xSlice T t d x lo hi mx L w = some ex) : SoundOp P E o L ex := by
  unfold xSlice at he
  split at he
  · rename_i ti l h s hti
    have hsh := (hT.get hti).sh
    split at he
    · rename_i s1 b h1 hx
      rw [h1] at hsh
      split at he
      · rename_i c1 c2 e1 e2
        cases he
        refine SoundOp.plain fun hc ν τ hτ => ?_
        obtain ⟨hc1, hc2, hc3, hc4, hc5, _⟩ := hc
        subst hc5
        obtain ⟨v1, a1, a2⟩ := bndX_spec hτ (fun k hk => by simp [hk]) e1 hc1
        obtain ⟨v2, b1, b2⟩ := bndX_spec hτ (fun k hk => by simp [hk]) e2 hc2
        exact step_slice_str d t x lo hi v1 v2 b l h ho hd hn hsh (im_den hτ (fun k hk => by simp [hk]) hx) a1 b1 a2 b2 hc3 hc4
      · cases he
    · rename_i e sh sz rows h1 hx
      rw [h1] at hsh
      split at he
      · rename_i te c1 c2 hte e1 e2
        have htz := (hT.get hte).size_eq
        cases hb : Nat.beq sz te.size with
        | false => rw [hb] at he; cases he
        | true =>
          rw [hb] at he
          cases he
          rw [← Nat.eq_of_beq_eq_true hb] at htz
          refine SoundOp.plain fun hc ν τ hτ => ?_
          obtain ⟨hc1, hc2, hc3, hc4, hc5, _⟩ := hc
          subst hc5
          obtain ⟨v1, a1, a2⟩ := bndX_spec hτ (fun k hk => by simp [hk]) e1 hc1
          obtain ⟨v2, b1, b2⟩ := bndX_spec hτ (fun k hk => by simp [hk]) e2 hc2
          exact step_slice d t e sz x lo hi v1 v2 rows l h ho hd hn ⟨hsh.2, hsh.1⟩ htz (im_den hτ (fun k hk => by simp [hk]) hx) a1 b1 a2 b2 hc3 hc4
      · cases he
    · rename_i e sh sz rows m h1 hx
      rw [h1] at hsh
      split at he
      · rename_i te y s3 k3 j hte hm
        have htz := (hT.get hte).size_eq
        split at he
        · rename_i s2 k2 i hy
          cases hb : Nat.beq sz te.size with
          | false => rw [hb] at he; cases he
          | true =>
            rw [hb] at he
            cases he
            rw [← Nat.eq_of_beq_eq_true hb] at htz
            refine SoundOp.plain fun hc ν τ hτ => ?_
            obtain ⟨hc1, hc2, hc3, hc4, hc5, _⟩ := hc
            subst hc5 hc1 hc2
            exact step_slice3 d t e sz x y m rows h l ho hd hn ⟨hsh.2, hsh.1⟩ htz (im_den hτ (fun k hk => by simp [hk]) hx) (im_den hτ (fun k hk => by simp [hk]) hy) (im_den hτ (fun k hk => by simp [hk]) hm) hc3 hc4
        · cases he
      · cases he
    · cases he
  · cases he

/-- A field of one cell. -/
def FieldOne (P : Program) (t : TypeId) (j off : Nat) : Prop := ∃ fa f, P.underlying t = some (.struct fa) ∧ fa[j]? = some f ∧ f.offset = off ∧ Ty P f.type 1 false
theorem FieldOne.of {P : Program} {T : Tab} {t : TypeId} {j off : Nat} {fa : Array Field} {f : Field} {i : TI} (hT : TabOK P T) (h : P.underlying t = some (.struct fa)) (hf : fa[j]? = some f) (ho : f.offset = off) (hi : T.get f.type = some i) (h1 : Nat.beq i.size 1 = true) (ha : i.sh.agg = false) :
    FieldOne P t j off := ⟨fa, f, h, hf, ho, by have := (hT.get hi).ty; rw [ha, Nat.eq_of_beq_eq_true h1] at this; exact this⟩

theorem step_field_one {P : Program} {E : Env} {o : Oper} {σ : St} (d : Nat) (t : TypeId) (x : Operand) (j off : Nat) (ls : List Leaf) (l : Leaf)
    (ho : o.op = .field t x j) (hd : o.dst = some d) (hn : d < E.n) (hf : FieldOne P t j off) (hx : opd σ x = .agg ls) (hl : ls[off]? = some l) (hb : l.bare = true) : Step P E o σ (· = upd σ (tk d) (.lf l)) := by
  refine Step.of_run fun g w a h => ?_
  have hr := opd_rel h x
  rw [hx] at hr
  obtain ⟨cs, hv, hsz, hrel⟩ := hr
  obtain ⟨fa, f, hu, hfa, hoff, hty⟩ := hf
  have hlt : off < cs.size := by rw [hsz]; exact (List.getElem?_eq_some_iff.1 hl).1
  have hc : cs[off]? = some cs[off] := Array.getElem?_eq_getElem hlt
  refine ⟨cs[off], w, drop (tk d) g, _, .inl ?_, rfl, ?_⟩
  · have e1 : (part f.type cs f.offset).run P w = .ok cs[off] w := by
      unfold part
      rw [Sem.run_bind, hty.isAgg w, hoff]
      simp [hc]
    have e2 : (Instr.field t (.agg cs) j).run P w = .ok cs[off] w := by
      unfold Instr.field
      rw [Sem.run_bind, run_underlying hu]
      simp only [Result.andThen_ok, hfa]
      rw [Sem.run_bind]
      simp only [asAgg, Sem.run_pure, Result.andThen_ok]
      exact e1
    simp [execOp, ho, hv, e2]
  · rw [hd]
    exact h.set d _ _ hn fun g' hg' => (hrel off l _ hl hc).bare hb hg'

def xFieldV (P : Program) (t : TypeId) (d : Nat) (x : Operand) (j : Nat) (L : SL) (w : Option Wit) : Option Ex :=
  match ox L x, w with
  | .one (.agg ls), some (.cut off _ _) => match ls[off]? with
    | some l => bif l.bare then some ⟨ok x, [(tk d, .lf l)], none, [FieldOne P t j off]⟩ else none
    | none => none
  | _, _ => none

theorem xFieldV_sound {P : Program} {E : Env} {o : Oper} {t : TypeId} {d j : Nat} {x : Operand} {L : SL} {w : Option Wit} {ex : Ex} (ho : o.op = .field t x j) (hd : o.dst = some d) (hn : d < E.n)
    (he : xFieldV P t d x j L w = some ex) : SoundOp P E o L ex := by
  unfold xFieldV at he
  split at he
  · rename_i ls off h0 s0 hx
    split at he
    · rename_i l hl
      cases hb : l.bare with
      | false => rw [hb] at he; cases he
      | true =>
        rw [hb] at he
        cases he
        refine SoundOp.plain fun hc ν τ hτ => ?_
        have h := opd_is hτ (fun k hk => hk) hx
        simp only [renS, renP] at h
        exact step_field_one d t x j off _ _ ho hd hn hc.1 h (by rw [List.getElem?_map, hl]; rfl) (renL_bare hb)
    · cases he
  · cases he

/-- A text's bytes as rows. -/
def bytesR (s : ByteArray) : List (List SV) := s.data.toList.map fun b => [.int .u8 (b.toNat : Int)]

theorem step_convert_bytes {P : Program} {E : Env} {o : Oper} {σ : St} (d : Nat) (t t' e : TypeId) (x : Operand) (s : ByteArray) {sh : Bool} (ho : o.op = .convert t t' x) (hd : o.dst = some d) (hn : d < E.n)
    (hs : P.underlying t = some (.slice e)) (he : P.underlying e = some (.int .u8)) (ht : P.underlying t' = some .string) (hx : opd σ x = .lf (.im sh (.sl 1 (bytesR s)))) : Step P E o σ (· = upd σ (tk d) (.lf (.im true (.str s)))) := by
  refine Step.of_run fun g w a h => ?_
  have hxr : SRep (Imm g sh) w (a.eval x) (.sl 1 (bytesR s)) := opd_im h hx
  refine ⟨.string s, w, drop (tk d) g, _, .inl ?_, rfl, by rw [hd]; exact h.set d _ _ hn fun g' hg' => .str _⟩
  generalize hv : a.eval x = v at hxr
  have hrun : (convert t t' v).run P w = .ok (.string s) w := by
    have hsa : (⟨s.data.toList.toArray⟩ : ByteArray) = s := by simp
    generalize hr : bytesR s = rows at hxr
    cases hxr with
    | nil sz ad cap =>
      have hl : s.data.toList = [] := by
        unfold bytesR at hr
        exact List.map_eq_nil_iff.1 hr
      cases ad with
      | some ad =>
        have := run_convert_bytes_back (P := P) w t t' e ad cap [] hs he ht (fun j hj => by simp at hj)
        rw [← hl] at this
        rwa [hsa, hl] at this
      | none =>
        rw [run_convert_bytes_string w t t' e none 0 cap hs he ht]
        rw [← hsa, hl]
        rfl
    | sl b off n cap sz rows cv hn' hc hw hS hcell hrep =>
      have hlen : n = s.data.toList.length := by rw [hn', ← hr]; simp [bytesR]
      subst hlen
      have := run_convert_bytes_back (P := P) w t t' e ⟨b, off, none⟩ cap s.data.toList hs he ht (fun j hj => by
        have hrow : rows[j]? = some [.int .u8 ((s.data.toList[j]).toNat : Int)] := by
          rw [← hr, bytesR, List.getElem?_map, List.getElem?_eq_getElem hj]; rfl
        have h1 := hcell j _ 0 _ hrow rfl
        have h2 := hrep j _ 0 _ hrow rfl
        cases hcv : cv (j * 1 + 0) with
        | int k m =>
          rw [hcv] at h1 h2
          cases h2
          rw [show (⟨b, off, none⟩ : Addr).add j = ⟨b, off + (j * 1 + 0), none⟩ from by unfold Addr.add; split <;> simp <;> omega]
          exact h1
        | _ => rw [hcv] at h2; cases h2)
      rwa [hsa] at this
  simp [execOp, ho, hv, hrun]

def xBytes (T : Tab) (t t' : TypeId) (d : Nat) (x : Operand) (L : SL) (w : Option Wit) : Option Ex :=
  match T.get t, T.get t', w with
  | some ti, some tj, some (.slot (.one (.lf (.im true (.str s))))) => match ti.sh, tj.sh, ox L x with
    | .sl e, .str, .one (.lf (.im _ (.sl sz rows))) => match T.get e with
      | some te => match te.sh with
        | .int .u8 => bif Nat.beq sz 1 then some ⟨ok x, [(tk d, .im (.str s))], none, [rows = bytesR s]⟩ else none
        | _ => none
      | none => none
    | _, _, _ => none
  | _, _, _ => none

theorem xBytes_sound {P : Program} {E : Env} {o : Oper} {T : Tab} {t t' : TypeId} {d : Nat} {x : Operand} {L : SL} {w : Option Wit} {ex : Ex} (hT : TabOK P T) (ho : o.op = .convert t t' x) (hd : o.dst = some d) (hn : d < E.n)
    (he : xBytes T t t' d x L w = some ex) : SoundOp P E o L ex := by
  unfold xBytes at he
  split at he
  · rename_i ti tj s hti htj
    split at he
    · rename_i e sh sz rows h1 h2 hx
      split at he
      · rename_i te hte
        split at he
        · rename_i h3
          cases hb : Nat.beq sz 1 with
          | false => rw [hb] at he; cases he
          | true =>
            rw [hb] at he
            obtain rfl := Nat.eq_of_beq_eq_true hb
            cases he
            have e1 := (hT.get hti).sh
            have e2 := (hT.get htj).sh
            have e3 := (hT.get hte).sh
            rw [h1] at e1
            rw [h2] at e2
            rw [h3] at e3
            refine SoundOp.plain fun hc ν τ hτ => ?_
            have hx' := im_den hτ (fun k hk => hk) hx
            rw [hc.1] at hx'
            exact step_convert_bytes d t t' e x s ho hd hn e1.1 e3 e2 hx'
        · cases he
      · cases he
    · cases he
  · cases he
end Go.Proofs.YtahciphhopiipaaGreatDoor.V
