/- strings.Fields by value. The first part (the laying of the function's numbers) is written by the kit's lay-plain. -/
import Derived.Shelf.Strings.Fields
import Derived.KernelRfl
import Derived.Test.YtahciphhopiipaaGreatDoorD2
import Derived.Test.YtahciphhopiipaaGreatDoorProg
set_option linter.unusedVariables false
set_option linter.unusedSimpArgs false
namespace Go.Proofs
def Tryz.lays157_ren : Go.Shelf.Ren := ⟨fun | 157 => 131 | 229 => 146 | 199 => 147 | 261 => 159 | 311 => 174 | 312 => 175 | n => n, fun | 9 => 9 | 31 => 64 | 3 => 3 | 5 => 5 | 4 => 4 | 119 => 179 | 0 => 0 | 40 => 181 | 152 => 186 | 21 => 21 | 154 => 188 | 51 => 189 | 141 => 191 | 196 => 205 | 193 => 202 | 198 => 208 | 49 => 206 | 194 => 203 | 201 => 211 | 226 => 216 | 46 => 217 | 227 => 218 | n => n, fun | 0 => 0 | 6 => 1 | n => n⟩
theorem Tryz.lays157 : Go.Proofs.Lays.n157 Tryz.prog Tryz.lays157_ren := {
  mixed := by kernel_rfl
  f157 := Tryz.func131.trans (congrArg some (by kernel_rfl))
  f199 := Tryz.func147.trans (congrArg some (by kernel_rfl))
  f229 := Tryz.func146.trans (congrArg some (by kernel_rfl))
  f261 := Tryz.func159.trans (congrArg some (by kernel_rfl))
  f311 := Tryz.func174.trans (congrArg some (by kernel_rfl))
  f312 := Tryz.func175.trans (congrArg some (by kernel_rfl))
  t0 := Tryz.underlying0
  a0 := Tryz.isAgg0
  z0 := Tryz.sizeOf0
  v0 := Tryz.zeroValue0
  t3 := Tryz.underlying3
  a3 := Tryz.isAgg3
  z3 := Tryz.sizeOf3
  v3 := Tryz.zeroValue3
  t4 := Tryz.underlying4
  a4 := Tryz.isAgg4
  z4 := Tryz.sizeOf4
  v4 := Tryz.zeroValue4
  t5 := Tryz.underlying5
  a5 := Tryz.isAgg5
  z5 := Tryz.sizeOf5
  v5 := Tryz.zeroValue5
  t9 := Tryz.underlying9
  a9 := Tryz.isAgg9
  z9 := Tryz.sizeOf9
  v9 := Tryz.zeroValue9
  t21 := Tryz.underlying21
  a21 := Tryz.isAgg21
  z21 := Tryz.sizeOf21
  v21 := Tryz.zeroValue21
  t31 := Tryz.underlying64
  a31 := Tryz.isAgg64
  z31 := Tryz.sizeOf64
  v31 := Tryz.zeroValue64
  t40 := Tryz.underlying181
  a40 := Tryz.isAgg181
  z40 := Tryz.sizeOf181
  v40 := Tryz.zeroValue181
  t46 := Tryz.underlying217
  a46 := Tryz.isAgg217
  z46 := Tryz.sizeOf217
  v46 := Tryz.zeroValue217
  t49 := Tryz.underlying206
  a49 := Tryz.isAgg206
  z49 := Tryz.sizeOf206
  v49 := Tryz.zeroValue206
  t51 := Tryz.underlying189
  a51 := Tryz.isAgg189
  z51 := Tryz.sizeOf189
  v51 := Tryz.zeroValue189
  t119 := Tryz.underlying179
  a119 := Tryz.isAgg179
  z119 := Tryz.sizeOf179
  t141 := Tryz.underlying191
  a141 := Tryz.isAgg191
  z141 := Tryz.sizeOf191
  v141 := Tryz.zeroValue191
  t152 := Tryz.underlying186
  a152 := Tryz.isAgg186
  z152 := Tryz.sizeOf186
  v152 := Tryz.zeroValue186
  t154 := Tryz.underlying188
  a154 := Tryz.isAgg188
  z154 := Tryz.sizeOf188
  v154 := Tryz.zeroValue188
  t193 := Tryz.underlying202
  a193 := Tryz.isAgg202
  z193 := Tryz.sizeOf202
  v193 := Tryz.zeroValue202
  t194 := Tryz.underlying203
  a194 := Tryz.isAgg203
  z194 := Tryz.sizeOf203
  v194 := Tryz.zeroValue203
  t196 := Tryz.underlying205
  a196 := Tryz.isAgg205
  z196 := Tryz.sizeOf205
  v196 := Tryz.zeroValue205
  t198 := Tryz.underlying208
  a198 := Tryz.isAgg208
  z198 := Tryz.sizeOf208
  v198 := Tryz.zeroValue208
  t201 := Tryz.underlying211
  a201 := Tryz.isAgg211
  z201 := Tryz.sizeOf211
  v201 := Tryz.zeroValue211
  t226 := Tryz.underlying216
  a226 := Tryz.isAgg216
  z226 := Tryz.sizeOf216
  v226 := Tryz.zeroValue216
  t227 := Tryz.underlying218
  a227 := Tryz.isAgg218
  z227 := Tryz.sizeOf218
  v227 := Tryz.zeroValue218
  g0 := by kernel_rfl
  g6 := by kernel_rfl }
end Go.Proofs
namespace Go.Proofs.YtahciphhopiipaaGreatDoor
open Go Go.RowKit V

theorem fields_v (s : ByteArray) (hs : s.size < 4294967281) (hascii : ∀ (j : Nat) b, s.data.toList[j]? = some b → b.toNat < 128) :
    CallV Tryz.prog 131 [.lf (.im true (.str s))] (· = .lf (.im true (.sl 1 (((Lib.fields s.data.toList).map fun l => (⟨l.toArray⟩ : ByteArray)).map rS)))) := by
  intro g w vs hl h1 h2 h3 h4
  obtain ⟨v, rfl⟩ : ∃ v, vs = #[v] := by
    have : vs.size = 1 := h3
    match vs, this with
    | ⟨[v]⟩, _ => exact ⟨v, rfl⟩
  have hv : SRep (Imm g true) w v (.str s) := h4 0 _ v rfl rfl
  cases hv
  refine (Go.Proofs.Any.strings_Fields_core Tryz.lays157 (by kernel_rfl) s w hs hascii hl).mono fun e w' ⟨he, hw⟩ => ?_
  subst hw
  have hg0 : g w.heap.size = .none := h2 _ (Nat.le_refl _)
  refine ⟨_, fun b => if b = w.heap.size then .imm else g b, _, he, (Below.refl _ w).alloc (Nat.le_refl _) _, rfl, ?_, ?_, ?_, ?_, ?_, ?_⟩
  · show SRep _ _ _ _
    refine .sl w.heap.size 0 _ _ 1 _ (fun k => (((Lib.fields s.data.toList).map fun l => Value.string ⟨l.toArray⟩)[k]?).getD undef) (by simp) (Nat.le_refl _) ?_ (.inl (by simp)) ?_ ?_
    · intro r hr
      obtain ⟨x, -, rfl⟩ := List.mem_map.1 hr
      rfl
    · intro i r j x hr hx
      rw [List.getElem?_map, Option.map_eq_some_iff] at hr
      obtain ⟨t, ht, rfl⟩ := hr
      rw [List.getElem?_map, Option.map_eq_some_iff] at ht
      obtain ⟨l, hl2, rfl⟩ := ht
      have hj : j = 0 := by
        cases j with
        | zero => rfl
        | succ j => simp [rS] at hx
      subst hj
      unfold World.cell?
      have e0 : (w.alloc (.cells ((Lib.fields s.data.toList).map fun l => Value.string ⟨l.toArray⟩).toArray (Tryz.lays157_ren.t 9))).heap[w.heap.size]? = some (.cells ((Lib.fields s.data.toList).map fun l => Value.string ⟨l.toArray⟩).toArray (Tryz.lays157_ren.t 9)) := by
        show (w.heap.push _)[w.heap.size]? = _
        simp
      simp only [e0]
      simp [hl2]
    · intro i r j x hr hx
      rw [List.getElem?_map, Option.map_eq_some_iff] at hr
      obtain ⟨t, ht, rfl⟩ := hr
      rw [List.getElem?_map, Option.map_eq_some_iff] at ht
      obtain ⟨l, hl2, rfl⟩ := ht
      have hj : j = 0 := by
        cases j with
        | zero => rfl
        | succ j => simp [rS] at hx
      subst hj
      have hx2 : x = .str ⟨l.toArray⟩ := by simpa [rS] using hx.symm
      subst hx2
      simp only [Nat.mul_one, Nat.add_zero, List.getElem?_map, hl2, Option.map_some, Option.getD_some]
      exact .str _
  · intro b hb
    have : b ≠ w.heap.size := by omega
    simp [this]
  · intro b hb
    have hs : (w.alloc (.cells ((Lib.fields s.data.toList).map fun l => Value.string ⟨l.toArray⟩).toArray (Tryz.lays157_ren.t 9))).heap.size = w.heap.size + 1 := by
      show (w.heap.push _).size = _
      simp
    rw [hs] at hb
    have : b ≠ w.heap.size := by omega
    simp [this]
    exact h2 b (by omega)
  · intro b k i j e0
    by_cases e1 : b = w.heap.size
    · simp [e1] at e0
    · simp [e1] at e0; exact absurd e0 (h1 b _ _ _)
  · intro b b' k i j e0 e1
    by_cases q1 : b = w.heap.size
    · simp [q1] at e0
    · simp [q1] at e0; exact absurd e0 (h1 b _ _ _)
  · intro b hb e0
    by_cases e1 : b = w.heap.size
    · subst e1
      refine ⟨((Lib.fields s.data.toList).map fun l => Value.string ⟨l.toArray⟩).toArray, Tryz.lays157_ren.t 9, ?_⟩
      show (w.heap.push _)[w.heap.size]? = _
      simp
    · simp [e1] at e0; rw [h2 b hb] at e0; cases e0
def C1 : ByteArray := ⟨#[116, 114, 117, 101, 32, 102, 97, 108, 115, 101, 32, 109, 101, 32, 97, 100, 100, 32, 115, 117, 98, 32, 109, 117, 108, 32, 100, 105, 118, 32, 109, 111, 100, 32, 108, 101, 115, 115, 32, 115, 97, 109, 101, 32, 97, 110, 100, 32, 111, 114, 32, 110, 111, 116]⟩
def C2 : ByteArray := ⟨#[107, 101, 101, 112, 32, 116, 97, 107, 101, 32, 104, 97, 115, 32, 115, 101, 101, 32, 115, 101, 101, 119]⟩
theorem fields1 : CallV Tryz.prog 131 [.lf (.im true (.str C1))] (· = .lf (.im true (.sl 1 (W1.map rS)))) := by
  have hb : ∀ b ∈ C1.data.toList, b.toNat < 128 := by decide +kernel
  have h := fields_v C1 (by decide +kernel) (fun j b h => hb b (List.mem_of_getElem? h))
  have e : (Lib.fields C1.data.toList).map (fun l => (⟨l.toArray⟩ : ByteArray)) = W1 := by decide +kernel
  rwa [e] at h
theorem fields2 : CallV Tryz.prog 131 [.lf (.im true (.str C2))] (· = .lf (.im true (.sl 1 (W2.map rS)))) := by
  have hb : ∀ b ∈ C2.data.toList, b.toNat < 128 := by decide +kernel
  have h := fields_v C2 (by decide +kernel) (fun j b h => hb b (List.mem_of_getElem? h))
  have e : (Lib.fields C2.data.toList).map (fun l => (⟨l.toArray⟩ : ByteArray)) = W2 := by decide +kernel
  rwa [e] at h
end Go.Proofs.YtahciphhopiipaaGreatDoor
