/- Bodies; conditions that come up often. -/
import Derived.Test.YtahciphhopiipaaGreatDoorX6
set_option linter.unusedVariables false
set_option linter.unusedSimpArgs false
namespace Go.Proofs.YtahciphhopiipaaGreatDoor.V
open Go Go.RowKit

/-- What results hold in the end. -/
def resX (T : Tab) (L : SL) : List ResultVar → Option (List Part)
  | [] => some []
  | .tmp t :: rs => match look L (tk t), resX T L rs with
    | .one p, some ps => bif p.closed && p.told then some (p :: ps) else none
    | _, _ => none
  | .cell a ty :: rs => match look L (ck a), look L (tk a), resX T L rs with
    | .cell b ls, .one (.lf (.ptr b' 0)), some ps => match T.get ty with
      | some ti => bif Nat.beq b b' && (ls.all Leaf.closed && (ti.sh.agg && Nat.beq ls.length ti.size)) then some (.agg ls :: ps) else none
      | none => none
    | _, _, _ => none

theorem VW.rel {P : Program} {E : Env} {c : Code} {σ : St} {R R' : Exit → St → Prop} (h : VW P E c σ R) (hR : ∀ e τ g w a, R e τ → Rel E g w a τ → R' e τ) : VW P E c σ R' :=
  fun g w a Q hr hq => h g w a Q hr fun e g' w' a' τ hrr hr' => hq e g' w' a' τ (hR e τ g' w' a' hrr hr') hr'

theorem weak_tmp {ν : Nm} {L : SL} {τ : St} {k : Nat} {s : Slot} (h : Weak τ (den ν L)) (hs : renS ν (look L k) = s) (hne : s ≠ Slot.hole) : τ k = s := by
  rcases h k with e | e
  · rw [← e]; exact hs
  · exact absurd (hs.symm.trans e) hne

theorem resX_spec {P : Program} {T : Tab} {E : Env} {g : Nat → Tag} {w : World} {a : Act} {ν : Nm} {L : SL} {τ : St} (hT : TabOK P T) (hr : Rel E g w a τ) (h : Weak τ (den ν L)) :
    ∀ {rs : List ResultVar} {ps : List Part}, resX T L rs = some ps → resParts τ rs = some ps ∧ resLen P ps rs
  | [], ps, e => by cases e; exact ⟨rfl, fun i t ty p h1 => by simp at h1⟩
  | .tmp t :: rs, ps, e => by
    simp only [resX] at e
    split at e
    · rename_i p ps' h1 h2
      cases hb : p.closed && p.told with
      | false => rw [hb] at e; cases e
      | true =>
        rw [hb] at e
        cases e
        rw [Bool.and_eq_true] at hb
        obtain ⟨k1, k2⟩ := resX_spec hT hr h h2
        have ht : τ (tk t) = .one p := weak_tmp h (by rw [h1]; simp only [renS, renP_closed hb.1]) (by intro e0; cases e0; cases hb.2)
        refine ⟨by simp only [resParts, resPart, ht, k1], fun i t' ty p' e1 e2 => ?_⟩
        cases i with
        | zero => simp at e1
        | succ i => exact k2 i t' ty p' (by simpa using e1) (by simpa using e2)
    · cases e
  | .cell x ty :: rs, ps, e => by
    simp only [resX] at e
    split at e
    · rename_i b ls b' ps' h1 h2 h3
      split at e
      · rename_i ti hti
        cases hb : Nat.beq b b' && (ls.all Leaf.closed && (ti.sh.agg && Nat.beq ls.length ti.size)) with
        | false => rw [hb] at e; cases e
        | true =>
          rw [hb] at e
          cases e
          rw [Bool.and_eq_true, Bool.and_eq_true, Bool.and_eq_true] at hb
          obtain ⟨hb1, hb2, hb3, hb4⟩ := hb
          obtain rfl := Nat.eq_of_beq_eq_true hb1
          have hls : ls.map (renL ν) = ls := map_id_of fun l hl => renL_closed (List.all_eq_true.1 hb2 l hl)
          obtain ⟨k1, k2⟩ := resX_spec hT hr h h3
          cases hν : ν b with
          | none =>
            exact (bad_cell hr (weak_tmp h (k := ck x) (s := .lf badLeaf) (by rw [h1]; simp only [renS, hν]) (by intro e0; cases e0))).elim
          | some q =>
            have ht : τ (ck x) = .cell q.1 ls := weak_tmp h (by rw [h1]; simp only [renS, hν, hls]) (by intro e0; cases e0)
            have ht2 : τ (tk x) = .lf (.ptr q.1 0) := weak_tmp h (by rw [h2]; simp only [renS, renP, renL, hν]) (by intro e0; cases e0)
            have hall : ls.all Leaf.bare = true := List.all_eq_true.2 fun l hl => Leaf.closed_bare (List.all_eq_true.1 hb2 l hl)
            refine ⟨by simp only [resParts, resPart, ht, ht2, k1, hall, and_self, if_true], fun i t' ty' p' e1 e2 => ?_⟩
            cases i with
            | zero =>
              simp only [List.getElem?_cons_zero, Option.some.injEq] at e1 e2
              cases e1
              subst e2
              have := (hT.get hti).ty
              rw [hb3] at this
              exact ⟨ti.size, this, fun ls' e0 => by cases e0; exact Nat.eq_of_beq_eq_true hb4⟩
            | succ i => exact k2 i t' ty' p' (by simpa using e1) (by simpa using e2)
      · cases e
    · cases e

def argL : List Part → Nat → SL
  | [], _ => []
  | p :: ps, i => (tk i, .one p) :: argL ps (i + 1)

theorem look_argL : ∀ (ps : List Part) (i k : Nat), look (argL ps i) k = Slot.hole ∨ ∃ q p, k = tk (i + q) ∧ ps[q]? = some p ∧ look (argL ps i) k = .one p
  | [], i, k => .inl rfl
  | p :: ps, i, k => by
    simp only [argL, look_cons]
    by_cases h : k = tk i
    · right; exact ⟨0, p, h, rfl, by rw [if_pos h]⟩
    · rw [if_neg h]
      rcases look_argL ps (i + 1) k with e | ⟨q, p', h1, h2, h3⟩
      · exact .inl e
      · exact .inr ⟨q + 1, p', by rw [h1]; congr 1; omega, by simpa using h2, h3⟩

theorem st0_weak (ν : Nm) (args : List Part) (hc : args.all Part.closed = true) : Weak (st0 args) (den ν (argL args 0)) := fun k => by
  rcases look_argL args 0 k with e | ⟨q, p, h1, h2, h3⟩
  · right; simp only [den, e]; rfl
  · left
    have hp : p.closed = true := List.all_eq_true.1 hc p (List.mem_of_getElem? h2)
    simp only [den, h3, renS, renP_closed hp]
    subst h1
    have e1 : tk (0 + q) % 2 = 0 := by unfold tk; omega
    have e2 : tk (0 + q) / 2 = q := by unfold tk; omega
    simp [st0, e1, e2, h2]

/-- What is to hold where a body ends. -/
structure Fin (T : Tab) (rs : List ResultVar) (R : Slot → Prop) (e : Exit) (L : SL) : Prop where
  exit : e = .ret ∨ e = .normal
  res : ∃ ps, resX T L rs = some ps ∧ R (slotOf ps)

/-- A body at a state that is written as a list. -/
theorem CallX {P : Program} {T : Tab} {f n : Nat} {fn : Func} {c : Code} {args : List Part} {R : Slot → Prop} (hT : TabOK P T) (hm : P.follows .mixedOrders = true) (hf : P.funcs[f]? = some fn) (hb : fn.body = some c)
    (hn : fn.ntmps = n) (hna : Nat.ble args.length n = true) (hcl : args.all Part.closed = true) (hro : resOK fn.results.toList = true)
    (h : ∀ E, Cx P T n E → XW P E c (argL args 0) (Fin T fn.results.toList R)) : CallV P f args R := by
  refine CallV.body hf hb (by rw [hn]; exact Nat.le_of_ble_eq_true hna) fun E hE hA => ?_
  have hx := (h E ⟨hT, by rw [hE, hn], hm, hA⟩).run (fun _ => none)
  refine vw_turn (Turn.weaken (st0_weak (fun _ => none) args hcl)) fun τ e0 => ?_
  subst e0
  refine VW.rel hx fun e τ g w a ⟨ν', L', ⟨h1, ps, h2, h3⟩, hw⟩ hr => ?_
  obtain ⟨k1, k2⟩ := resX_spec hT hr hw h2
  exact ⟨h1, ps, k1, resOK_spec hro, k2, h3⟩

/-- The end. -/
theorem xret {P : Program} {E : Env} {T : Tab} {L : SL} {rs : List ResultVar} {R : Slot → Prop} {Q : Exit → SL → Prop} (ps : List Part) (hQ : Q .ret L = Fin T rs R .ret L) (h : resX T L rs = some ps) (hR : R (slotOf ps)) : XW P E .ret L Q :=
  xw_ret (hQ ▸ ⟨.inl rfl, ps, h, hR⟩)

/-- A region whose operations hang on tests. -/
theorem vxj {P : Program} {T : Tab} {n : Nat} {E : Env} {id : Nat} {ops : Array Oper} {dr : Bool} {L : SL} {y : Code} {R : Exit → SL → Prop} (c : Cx P T n E) (L' : SL)
    (h : ∃ W cs, AllP cs ∧ runR P T n ops dr W L (L'.map Prod.fst) = some (L', cs)) (hy : XW P E y L' R) : XW P E (.seq (.region id ops dr) y) L R :=
  let ⟨W, cs, h1, h2⟩ := h; vx c L' W h1 h2 hy
theorem vxje {P : Program} {T : Tab} {n : Nat} {E : Env} {id : Nat} {ops : Array Oper} {dr : Bool} {L : SL} {R : Exit → SL → Prop} (c : Cx P T n E) (L' : SL)
    (h : ∃ W cs, AllP cs ∧ runR P T n ops dr W L (L'.map Prod.fst) = some (L', cs)) (hR : R .normal L') : XW P E (.region id ops dr) L R :=
  let ⟨W, cs, h1, h2⟩ := h; vxe c L' W h1 h2 hR

/-- Less is known, or it is written otherwise. -/
theorem xw_keep {P : Program} {E : Env} {c : Code} {L : SL} {R : Exit → SL → Prop} (L' : SL) (h : (L'.map Prod.fst).map (fun k => (k, look L k)) = L') (hc : XW P E c L' R) : XW P E c L R :=
  ⟨fun ν => vw_turn (Turn.weaken (by have := keep_weak ν L (L'.map Prod.fst); rwa [h] at this)) fun τ e => by subst e; exact hc.run ν⟩
theorem xw_fr {P : Program} {E : Env} {c : Code} {L : SL} {R : Exit → SL → Prop} (t : Nat) (L' : SL) (h : (L'.map Prod.fst).map (fun k => (k, look (frz t L) k)) = L') (hc : XW P E c L' R) : XW P E c L R :=
  xw_frz t _ rfl (xw_keep L' h hc)

/-- Conditions side by side. -/
theorem a2 {ps qs : List Prop} (h1 : AllP ps) (h2 : AllP qs) : AllP (ps ++ qs) := by
  induction ps with
  | nil => exact h2
  | cons p ps ih => exact ⟨h1.1, ih h1.2⟩
theorem a1 {p : Prop} (h : p) : AllP [p] := ⟨h, trivial⟩

/-- A whole number that fits. -/
theorem wI {a b : Int} (h : a = b) (h0 : -9223372036854775808 ≤ b) (h1 : b ≤ 9223372036854775807) : AllP [(Slot.im (.int .i64 (IntKind.i64.wrap a)) : Slot) = .int b] := a1 (by rw [wrap_in h h0 h1])
theorem inc {i n : Nat} (h : i < n) (hn : n ≤ 9223372036854775807) : AllP [(Slot.im (.int .i64 (IntKind.i64.wrap ((i : Int) + 1))) : Slot) = .int ((i + 1 : Nat) : Int)] := wI (by omega) (by omega) (by omega)
/-- A test that is known. -/
theorem kT {p : Prop} [Decidable p] (h : p) : AllP [(Slot.bool (decide p)) = Slot.bool true] := a1 (by rw [decide_eq_true h])
theorem kF {p : Prop} [Decidable p] (h : ¬ p) : AllP [(Slot.bool (decide p)) = Slot.bool false] := a1 (by rw [decide_eq_false h])
theorem kB {b c : Bool} (h : b = c) : AllP [(Slot.bool b) = Slot.bool c] := a1 (by rw [h])
/-- An element. -/
theorem ix {α : Type} {f : α → List SV} {l : List α} {i : Nat} {x : α} (h : l[i]? = some x) : AllP [0 ≤ ((i : Nat) : Int), (l.map f)[((i : Nat) : Int).toNat]? = some (f x)] :=
  ⟨by omega, by simp [h], trivial⟩
/-- A call. -/
theorem cl {P : Program} {f : FuncId} {ps : List Part} {R : Slot → Prop} (h : Text P f) (hc : CallV P f ps R) : AllP [Text P f, CallV P f ps R] := ⟨h, hc, trivial⟩

theorem hl (n : Nat) : AllP [n = n] := a1 rfl
theorem ln {α : Type} {f : α → List SV} {l : List α} : AllP [(Slot.int (((l.map f).length : Nat) : Int)) = Slot.int ((l.length : Nat) : Int)] := a1 (by rw [List.length_map])
theorem ixu {i n : Nat} (h : i < n) : AllP [0 ≤ ((i : Nat) : Int), ((i : Nat) : Int) < ((n : Nat) : Int)] := ⟨by omega, by omega, trivial⟩
theorem ib {s : ByteArray} {i : Nat} {c : UInt8} (h : s.data.toList[i]? = some c) : AllP [0 ≤ ((i : Nat) : Int), s.data.toList[((i : Nat) : Int).toNat]? = some c] := ⟨by omega, h, trivial⟩
theorem mk {n b : Nat} (h1 : b * n ≤ 281474976710656) (h2 : n ≤ maxLen) : AllP [n = n, b * n ≤ 281474976710656, n ≤ maxLen] := ⟨rfl, h1, h2, trivial⟩
theorem ap {a b : Nat} (h1 : a * b ≤ 140737488355328) (h2 : a ≤ maxLen) : AllP [a * b ≤ 140737488355328, a ≤ maxLen] := ⟨h1, h2, trivial⟩
theorem clip {α : Type} {f : α → List SV} {l : List α} : AllP [((l.length : Nat) : Int) = ((l.length : Nat) : Int), ((l.length : Nat) : Int) = ((l.length : Nat) : Int), l.length ≤ l.length, l.length ≤ (l.map f).length,
    (.lf (.im true (.sl 1 ((l.map f).take l.length))) : Slot) = .lf (.im true (.sl 1 (l.map f)))] :=
  ⟨rfl, rfl, Nat.le_refl _, by simp, by rw [List.take_of_length_le (by simp)], trivial⟩

theorem clipz {α : Type} {sz : Nat} {f : α → List SV} {l : List α} : AllP [((l.length : Nat) : Int) = ((l.length : Nat) : Int), ((l.length : Nat) : Int) = ((l.length : Nat) : Int), l.length ≤ l.length, l.length ≤ (l.map f).length,
    (.lf (.im true (.sl sz ((l.map f).take l.length))) : Slot) = .lf (.im true (.sl sz (l.map f)))] :=
  ⟨rfl, rfl, Nat.le_refl _, by simp, by rw [List.take_of_length_le (by simp)], trivial⟩
theorem get_lt {α : Type} {l : List α} {i : Nat} (h : i < l.length) : ∃ x, l[i]? = some x := ⟨_, List.getElem?_eq_getElem h⟩
theorem of_dT {p : Prop} [Decidable p] (h : decide p = true) : p := of_decide_eq_true h
theorem of_dF {p : Prop} [Decidable p] (h : decide p = false) : ¬ p := of_decide_eq_false h
end Go.Proofs.YtahciphhopiipaaGreatDoor.V
