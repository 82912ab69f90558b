/- Marks of whole numbers, told exactly; calls of the law. -/
import Derived.Test.YtahciphhopiipaaGreatDoorR1
import Derived.Test.YtahciphhopiipaaGreatDoorW2
set_option linter.unusedVariables false
set_option linter.unusedSimpArgs false
namespace Go.Proofs.YtahciphhopiipaaGreatDoor
open Go Go.RowKit V

set_option maxRecDepth 100000 in
theorem markInt_x (l : List Int) (hlen : l.length ≤ 1099511627776) (S : Nat → Prop) (w0 : World) (v : Value) (h : SRep S w0 v (.sl 1 (l.map rI))) (hsoft : Soft S w0) :
    Calls Tryz.prog 12 #[v, .int .i64 1] w0 fun e w' => e = .returned (.int .i64 (1 + ((l.length : Nat) : Int))) ∧ Mk S w0 w' ∧ SRep S w' v (.sl 1 ((marksL l.length).map rI)) := by
  have hsh := h.sh
  obtain ⟨ad, n, cap, rfl, hn, hcap⟩ := h.slice_form
  rw [List.length_map] at hn
  subst hn
  refine Calls.mono (mark_fn (NT := 19) (tl := 18) (kv := fun i => 1 + ((i : Nat) : Int)) (J := fun i w => Mk S w0 w ∧ ∀ j, j < i → ∃ b off, ad = some ⟨b, off, none⟩ ∧ w.cell? ⟨b, off + j * 1 + 0, none⟩ = some (.int .i64 (1 + ((j : Nat) : Int))))
    Tryz.func12 rfl rfl rfl rfl rfl rfl rfl rfl ⟨rfl, rfl, rfl⟩ ⟨rfl, rfl, rfl⟩ ⟨rfl, rfl, rfl⟩ ⟨rfl, rfl, rfl⟩ ⟨rfl, rfl, rfl⟩ ⟨rfl, rfl, rfl⟩ ⟨rfl, rfl, rfl⟩ ⟨rfl, rfl, rfl⟩ ⟨rfl, rfl, rfl⟩ ⟨rfl, rfl, rfl⟩ ⟨rfl, rfl, rfl⟩ rfl Tryz.underlying24 (by omega) ?_ w0 ⟨Mk.refl S w0, fun j hj => by omega⟩ (kz := 1) (by simp)) fun en w h2 => ?_
  · rintro i a w hi A ⟨hm, hJ⟩
    obtain ⟨x, hx⟩ := get_lt' hi
    have hr := map_at (f := rI) hx
    obtain ⟨b, off, rfl, -⟩ := hsh.row hr
    obtain ⟨hS, cur, eb, y, hh, hcur, hp, hcell, hy⟩ := cell_at (j := 0) hsh hsoft hm hr rfl
    cases hy
    refine wp_seq (rg_st0 (NT := 19) rfl ⟨rfl, rfl, rfl⟩ ⟨rfl, rfl, rfl⟩ ⟨rfl, rfl, rfl⟩ ⟨rfl, rfl, rfl⟩ ⟨rfl, rfl, rfl⟩ (by kernel_rfl) Tryz.underlying24 (by kernel_rfl) (by kernel_rfl) A hi hh hp fun a A => ?_)
    have hm2 := hm.trans (Mk.store (v := .int .i64 (1 + ((i : Nat) : Int))) hS hh hp hcur (.inr (.inl ⟨_, _, _, rfl, rfl⟩)))
    refine rg_inc (NT := 19) rfl ⟨rfl, rfl, rfl⟩ ⟨rfl, rfl, rfl⟩ ⟨rfl, rfl, rfl⟩ (by kernel_rfl) (by decide) (by omega) (by omega) A fun a A => ?_
    refine ⟨rfl, ?_, hm2, fun j hj => ?_⟩
    · rw [show (1 : Int) + ((i + 1 : Nat) : Int) = 1 + ((i : Nat) : Int) + 1 from by omega]
      exact A
    · refine ⟨b, off, rfl, ?_⟩
      have hsp := fun q => get_splice1 (cur := cur) (v := .int .i64 (1 + ((i : Nat) : Int))) (p := off + i * 1 + 0) (j := q) hp
      have hcell2 : ∀ q, (w.setRow b (cur.toList.take (off + i * 1 + 0) ++ [Value.int .i64 (1 + ((i : Nat) : Int))] ++ cur.toList.drop (off + i * 1 + 0 + 1)).toArray).cell? ⟨b, q, none⟩ = if q = off + i * 1 + 0 then some (.int .i64 (1 + ((i : Nat) : Int))) else cur[q]? := by
        intro q
        have := setRow_heap w b cur (cur.toList.take (off + i * 1 + 0) ++ [Value.int .i64 (1 + ((i : Nat) : Int))] ++ cur.toList.drop (off + i * 1 + 0 + 1)).toArray eb (0, 0) hh
        unfold World.cell?
        rw [this]
        exact hsp q
      show (w.setRow b (cur.toList.take (off + i * 1 + 0) ++ [Value.int .i64 (1 + ((i : Nat) : Int))] ++ cur.toList.drop (off + i * 1 + 0 + 1)).toArray).cell? ⟨b, off + j * 1 + 0, none⟩ = _
      rw [hcell2]
      by_cases e : j = i
      · subst e; rw [if_pos rfl]
      · rw [if_neg (by omega)]
        obtain ⟨b', off', e1, e2⟩ := hJ j (by omega)
        cases e1
        simpa [World.cell?, hh] using e2
  · obtain ⟨h3, hm, hJ⟩ := h2
    refine ⟨h3, hm, ?_⟩
    by_cases h0 : l.length = 0
    · rw [h0, show (marksL 0).map rI = [] from rfl]
      exact .nil 1 ad cap
    · obtain ⟨b, off, rfl, -⟩ := hJ 0 (by omega)
      obtain ⟨x, hx⟩ := get_lt' (l := l) (i := 0) (by omega)
      obtain ⟨b', off', e, hS, -⟩ := hsh.row (map_at (f := rI) hx)
      cases e
      refine .sl b off l.length cap 1 _ (fun q => .int .i64 (1 + ((q : Nat) : Int))) (by rw [List.length_map, marks_len]) (by simpa using hcap) ?_ hS ?_ ?_
      · intro r hr
        obtain ⟨y, -, rfl⟩ := List.mem_map.1 hr
        rfl
      · intro i r j y hr hy
        have hi : i < l.length := by have := (List.getElem?_eq_some_iff.1 hr).1; rw [List.length_map, marks_len] at this; exact this
        rw [List.getElem?_map, marksL, List.getElem?_map, List.getElem?_range hi] at hr
        cases hr
        have hj : j = 0 := by
          cases j with
          | zero => rfl
          | succ j => simp [rI] at hy
        subst hj
        obtain ⟨b', off', e1, e2⟩ := hJ i hi
        cases e1
        simpa using e2
      · intro i r j y hr hy
        have hi : i < l.length := by have := (List.getElem?_eq_some_iff.1 hr).1; rw [List.length_map, marks_len] at this; exact this
        rw [List.getElem?_map, marksL, List.getElem?_map, List.getElem?_range hi] at hr
        cases hr
        have hj : j = 0 := by
          cases j with
          | zero => rfl
          | succ j => simp [rI] at hy
        subst hj
        simp [rI] at hy
        subst hy
        rw [Nat.mul_one, Nat.add_zero]
        exact .int _ _
end Go.Proofs.YtahciphhopiipaaGreatDoor
