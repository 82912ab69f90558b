/- Tables of types out of closed facts. -/
import Derived.Test.YtahciphhopiipaaGreatDoorX7
import Derived.KernelRfl
set_option linter.unusedVariables false
set_option linter.unusedSimpArgs false
namespace Go.Proofs.YtahciphhopiipaaGreatDoor.V
open Go Go.RowKit

theorem places_arr {P : Program} (fa : Array Field) (ss : List Nat) (hl : fa.toList.length = ss.length) (h : ∀ (i : Nat) f s, fa.toList[i]? = some f → ss[i]? = some s → (P.info? f.type).map (·.size) = some s) (w : World) :
    ((fa.mapM fun f => do pure (f.offset, ← sizeOf f.type)) : Sem (Array (Nat × Nat))).run P w = .ok ((fa.toList.zip ss).map fun p => (p.1.offset, p.2)).toArray w := by
  rw [Array.mapM_eq_mapM_toList, map_eq_pure_bind, Sem.run_bind, places_of fa.toList ss hl h w]
  rfl

/-- What a struct type's fields come to. -/
def fieldsOf (P : Program) (t : TypeId) : Option (List (Nat × Option Nat)) := match P.underlying t with
  | some (.struct fa) => some (fa.toList.map fun f => (f.offset, (P.info? f.type).map (·.size)))
  | _ => none

theorem ShOK.st_of {P : Program} {t : TypeId} {fs : List (Nat × Nat)} {zl : List Leaf} (h : fieldsOf P t = some (fs.map fun p => (p.1, some p.2))) (hz : ∃ z, (∀ w, (zeroValue t).run P w = .ok z w) ∧ z.cells.toList.map litLeaf = zl) :
    ShOK P t zl (.st fs) := by
  unfold fieldsOf at h
  split at h
  · rename_i fa hu
    simp only [Option.some.injEq] at h
    have hlen : fa.toList.length = fs.length := by have := congrArg List.length h; simpa using this
    have hget : ∀ (j : Nat) p, fs[j]? = some p → ∃ f, fa[j]? = some f ∧ f.offset = p.1 ∧ (P.info? f.type).map (·.size) = some p.2 := by
      intro j p hp
      have e := congrArg (fun l => l[j]?) h
      simp only [List.getElem?_map, hp, Option.map_some] at e
      cases hf : fa.toList[j]? with
      | none => rw [hf] at e; cases e
      | some f =>
        rw [hf] at e
        simp only [Option.map_some, Option.some.injEq, Prod.mk.injEq] at e
        exact ⟨f, by simpa using hf, e.1, e.2⟩
    refine ⟨⟨fa, hu, hget⟩, ⟨⟨fa, hu, fun w => ?_⟩, hz⟩⟩
    have hp := places_arr (P := P) fa (fs.map (·.2)) (by simpa using hlen) (fun i f s h1 h2 => by
      simp only [List.getElem?_map, Option.map_eq_some_iff] at h2
      obtain ⟨p, hp, rfl⟩ := h2
      obtain ⟨f', e1, e2, e3⟩ := hget i p hp
      have : f' = f := by
        have h1' : fa[i]? = some f := by simpa using h1
        rw [h1'] at e1; cases e1; rfl
      rw [← this]; exact e3) w
    rw [hp]
    congr 2
    apply List.ext_getElem?
    intro i
    simp only [List.getElem?_map, List.getElem?_zip_eq_some, List.zip_map_right]
    cases hp : fs[i]? with
    | none =>
      have h1 : fs.length ≤ i := by simpa using hp
      have h2 : (fa.toList.zip fs)[i]? = none := by rw [List.getElem?_eq_none]; rw [List.length_zip]; omega
      simp [h2]
    | some p =>
      obtain ⟨f, e1, e2, e3⟩ := hget i p hp
      have h2 : (fa.toList.zip fs)[i]? = some (f, p) := by
        rw [List.getElem?_zip_eq_some]
        exact ⟨by simpa using e1, hp⟩
      simp [h2, e2]
  · cases h

theorem TyOK.mk0 {P : Program} {t : TypeId} {sh : Sh} {size bytes : Nat} {zero : List Leaf} {zsv : List SV} (z : Value) (h : (P.info? t).map (fun i => (i.zero, i.size, i.bytes)) = some (some z, size, bytes)) (h1 : z.cells.size = size)
    (h2 : z.cells.toList.map litLeaf = zero) (h3 : zsv = [] ∨ (zsv.length = size ∧ zerosAre z.cells.toList zsv = true)) (hp : 0 < size) (ho : sh.agg = false → size = 1) (hs : ShOK P t zero sh) :
    TyOK P t ⟨sh, size, bytes, zero, zsv⟩ := ⟨⟨z, h, h1, h2, h3⟩, hp, ho, hs⟩

theorem TyOK.int {P : Program} {t : TypeId} (k : IntKind) {bytes : Nat} (hu : P.underlying t = some (.int k)) (h : (P.info? t).map (fun i => (i.zero, i.size, i.bytes)) = some (some (.int k 0), 1, bytes)) :
    TyOK P t ⟨.int k, 1, bytes, [.im true (.int k 0)], [.int k 0]⟩ := .mk0 _ h rfl rfl (.inr ⟨rfl, by cases k <;> rfl⟩) (by decide) (fun _ => rfl) hu
theorem TyOK.bool {P : Program} {t : TypeId} {bytes : Nat} (hu : P.underlying t = some .bool) (h : (P.info? t).map (fun i => (i.zero, i.size, i.bytes)) = some (some (.bool false), 1, bytes)) :
    TyOK P t ⟨.bool, 1, bytes, [.im true (.bool false)], [.bool false]⟩ := .mk0 _ h rfl rfl (.inr ⟨rfl, rfl⟩) (by decide) (fun _ => rfl) hu
theorem TyOK.str {P : Program} {t : TypeId} {bytes : Nat} (hu : P.underlying t = some .string) (h : (P.info? t).map (fun i => (i.zero, i.size, i.bytes)) = some (some (.string ⟨#[]⟩), 1, bytes)) :
    TyOK P t ⟨.str, 1, bytes, [.im true (.str ⟨#[]⟩)], [.str ⟨#[]⟩]⟩ := .mk0 _ h rfl rfl (.inr ⟨rfl, rfl⟩) (by decide) (fun _ => rfl) hu
theorem TyOK.sl {P : Program} {t : TypeId} (e sz : Nat) {bytes : Nat} (hu : P.underlying t = some (.slice e)) (he : P.elem t = e) (h : (P.info? t).map (fun i => (i.zero, i.size, i.bytes)) = some (some (.slice none 0 0), 1, bytes)) :
    TyOK P t ⟨.sl e, 1, bytes, [.nil], [.sl sz []]⟩ := .mk0 _ h rfl rfl (.inr ⟨rfl, rfl⟩) (by decide) (fun _ => rfl) ⟨hu, he⟩
theorem TyOK.st {P : Program} {t : TypeId} (fs : List (Nat × Nat)) {size bytes : Nat} (z : Value) {zero : List Leaf} {zsv : List SV} (hf : fieldsOf P t = some (fs.map fun p => (p.1, some p.2)))
    (h : (P.info? t).map (fun i => (i.zero, i.size, i.bytes)) = some (some z, size, bytes)) (h1 : z.cells.size = size) (h2 : z.cells.toList.map litLeaf = zero)
    (h3 : zsv = [] ∨ (zsv.length = size ∧ zerosAre z.cells.toList zsv = true)) (hp : 0 < size) : TyOK P t ⟨.st fs, size, bytes, zero, zsv⟩ :=
  .mk0 z h h1 h2 h3 hp (fun e => by cases e) (ShOK.st_of hf (Zeros.of h h2))
end Go.Proofs.YtahciphhopiipaaGreatDoor.V
