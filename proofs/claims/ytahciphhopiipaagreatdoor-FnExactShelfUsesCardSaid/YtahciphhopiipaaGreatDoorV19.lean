/- Closed facts on types in the forms that the rules ask. -/
import Derived.Test.YtahciphhopiipaaGreatDoorV18
set_option linter.unusedVariables false
set_option linter.unusedSimpArgs false
namespace Go.Proofs.YtahciphhopiipaaGreatDoor.V
open Go Go.RowKit

theorem info_of {P : Program} {e : TypeId} {z : Value} {sz bytes : Nat} (h : (P.info? e).map (fun i => (i.zero, i.size, i.bytes)) = some (some z, sz, bytes)) :
    ∃ i, P.info? e = some i ∧ i.zero = some z ∧ i.size = sz ∧ i.bytes = bytes := by
  cases hi : P.info? e with
  | none => rw [hi] at h; cases h
  | some i =>
    rw [hi] at h
    simp only [Option.map_some, Option.some.injEq, Prod.mk.injEq] at h
    exact ⟨i, rfl, h.1, h.2.1, h.2.2⟩

theorem Elem.of {P : Program} {t e sz bytes : Nat} {z : Value} (hu : P.underlying t = some (.slice e)) (h : (P.info? e).map (fun i => (i.zero, i.size, i.bytes)) = some (some z, sz, bytes)) (hz : z.cells.size = sz) (hp : 0 < sz) : Elem P t e sz bytes :=
  let ⟨i, h1, h2, h3, h4⟩ := info_of h
  ⟨hu, ⟨i, z, h1, h2, h3, h4, hz⟩, hp⟩

def zerosAre : List Value → List SV → Bool
  | [], [] => true
  | v :: vs, x :: xs => zeroIs v x && zerosAre vs xs
  | _, _ => false

theorem zerosAre_get : ∀ {vs : List Value} {xs : List SV}, zerosAre vs xs = true → ∀ {j : Nat} {v : Value} {x : SV}, vs[j]? = some v → xs[j]? = some x → zeroIs v x = true
  | [], [], _, j, v, x, h, _ => by simp at h
  | v0 :: vs, x0 :: xs, h, j, v, x, h1, h2 => by
    simp only [zerosAre, Bool.and_eq_true] at h
    cases j with
    | zero => simp at h1 h2; subst h1; subst h2; exact h.1
    | succ j => exact zerosAre_get h.2 (by simpa using h1) (by simpa using h2)
  | [], _ :: _, h, _, _, _, _, _ => by cases h
  | _ :: _, [], h, _, _, _, _, _ => by cases h

theorem Zero.of {P : Program} {e sz bytes : Nat} {z : Value} {zs : List SV} (h : (P.info? e).map (fun i => (i.zero, i.size, i.bytes)) = some (some z, sz, bytes)) (hz : z.cells.size = sz) (hl : zs.length = sz) (ha : zerosAre z.cells.toList zs = true) : Zero P e sz zs :=
  let ⟨i, h1, h2, h3, _⟩ := info_of h
  ⟨⟨i, z, h1, h2, h3, hz, hl, fun j v x e1 e2 => zerosAre_get ha (by simpa using e1) e2⟩⟩

theorem zero_run {P : Program} {e sz bytes : Nat} {z : Value} (h : (P.info? e).map (fun i => (i.zero, i.size, i.bytes)) = some (some z, sz, bytes)) (w : World) : (zeroValue e).run P w = .ok z w := by
  obtain ⟨i, h1, h2, _⟩ := info_of h
  simp [zeroValue, typeInfo, h1, h2]

theorem Zeros.of {P : Program} {e sz bytes : Nat} {z : Value} {zl : List Leaf} (h : (P.info? e).map (fun i => (i.zero, i.size, i.bytes)) = some (some z, sz, bytes)) (hz : z.cells.toList.map litLeaf = zl) :
    ∃ z, (∀ w, (zeroValue e).run P w = .ok z w) ∧ z.cells.toList.map litLeaf = zl := ⟨z, zero_run h, hz⟩

theorem StructTy.of {P : Program} {t sz bytes : Nat} {fs : Array Field} {pl : List (Nat × Nat)} {z : Value} {zl : List Leaf} (hu : P.underlying t = some (.struct fs))
    (hpl : ∀ w, ((fs.mapM fun f => do pure (f.offset, ← sizeOf f.type)) : Sem (Array (Nat × Nat))).run P w = .ok pl.toArray w)
    (h : (P.info? t).map (fun i => (i.zero, i.size, i.bytes)) = some (some z, sz, bytes)) (hz : z.cells.toList.map litLeaf = zl) : StructTy P t pl zl :=
  ⟨⟨fs, hu, hpl⟩, Zeros.of h hz⟩

theorem size_of {P : Program} {e sz bytes : Nat} {z : Value} (h : (P.info? e).map (fun i => (i.zero, i.size, i.bytes)) = some (some z, sz, bytes)) : (P.info? e).map (·.size) = some sz := by
  obtain ⟨i, h1, _, h3, _⟩ := info_of h
  rw [h1]; simp [h3]

theorem map_at {α : Type} (f : α → List SV) {l : List α} {i : Nat} {x : α} (h : l[i]? = some x) : (l.map f)[i]? = some (f x) := by simp [h]

/-- The fields' places, one by one. -/
theorem places_of {P : Program} : ∀ (fs : List Field) (ss : List Nat), fs.length = ss.length → (∀ (i : Nat) f s, fs[i]? = some f → ss[i]? = some s → (P.info? f.type).map (·.size) = some s) →
    ∀ w, ((fs.mapM fun f => do pure (f.offset, ← sizeOf f.type)) : Sem (List (Nat × Nat))).run P w = .ok ((fs.zip ss).map fun p => (p.1.offset, p.2)) w
  | [], [], _, _, w => rfl
  | f :: fs, s :: ss, hl, h, w => by
    have h0 := h 0 f s rfl rfl
    have ih := places_of fs ss (by simpa using hl) (fun i f' s' h1 h2 => h (i + 1) f' s' (by simpa using h1) (by simpa using h2)) w
    rw [List.mapM_cons, Sem.run_bind, Sem.run_bind, run_sizeOf h0]
    simp only [Result.andThen_ok, Sem.run_pure, Sem.run_bind, ih]
    rfl
  | [], _ :: _, hl, _, _ => by cases hl
  | _ :: _, [], hl, _, _ => by cases hl
end Go.Proofs.YtahciphhopiipaaGreatDoor.V
