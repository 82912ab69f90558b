/- strings.Fields by value. The first part (the laying of the function's numbers) is written by the kit's lay-plain. -/
import Derived.Shelf.Strings.Fields
import Derived.KernelRfl
import Derived.Test.YtahciphhopiipaaDoorD2
import Derived.Test.YtahciphhopiipaaDoorProg
set_option linter.unusedVariables false
set_option linter.unusedSimpArgs false
namespace Go.Proofs
def Tryd.lays157_ren : Go.Shelf.Ren := ⟨fun | 157 => 103 | 229 => 115 | 199 => 116 | 261 => 119 | 311 => 120 | 312 => 121 | n => n, fun | 9 => 9 | 31 => 49 | 3 => 3 | 5 => 5 | 4 => 4 | 119 => 153 | 0 => 0 | 40 => 155 | 152 => 157 | 21 => 21 | 154 => 159 | 51 => 148 | 141 => 161 | 196 => 167 | 193 => 164 | 198 => 170 | 49 => 168 | 194 => 165 | 201 => 173 | 226 => 175 | 46 => 151 | 227 => 176 | n => n, fun | 0 => 1 | 6 => 3 | n => n⟩
theorem Tryd.lays157 : Go.Proofs.Lays.n157 Tryd.prog Tryd.lays157_ren := {
  mixed := by kernel_rfl
  f157 := Tryd.func103.trans (congrArg some (by kernel_rfl))
  f199 := Tryd.func116.trans (congrArg some (by kernel_rfl))
  f229 := Tryd.func115.trans (congrArg some (by kernel_rfl))
  f261 := Tryd.func119.trans (congrArg some (by kernel_rfl))
  f311 := Tryd.func120.trans (congrArg some (by kernel_rfl))
  f312 := Tryd.func121.trans (congrArg some (by kernel_rfl))
  t0 := Tryd.underlying0
  a0 := Tryd.isAgg0
  z0 := Tryd.sizeOf0
  v0 := Tryd.zeroValue0
  t3 := Tryd.underlying3
  a3 := Tryd.isAgg3
  z3 := Tryd.sizeOf3
  v3 := Tryd.zeroValue3
  t4 := Tryd.underlying4
  a4 := Tryd.isAgg4
  z4 := Tryd.sizeOf4
  v4 := Tryd.zeroValue4
  t5 := Tryd.underlying5
  a5 := Tryd.isAgg5
  z5 := Tryd.sizeOf5
  v5 := Tryd.zeroValue5
  t9 := Tryd.underlying9
  a9 := Tryd.isAgg9
  z9 := Tryd.sizeOf9
  v9 := Tryd.zeroValue9
  t21 := Tryd.underlying21
  a21 := Tryd.isAgg21
  z21 := Tryd.sizeOf21
  v21 := Tryd.zeroValue21
  t31 := Tryd.underlying49
  a31 := Tryd.isAgg49
  z31 := Tryd.sizeOf49
  v31 := Tryd.zeroValue49
  t40 := Tryd.underlying155
  a40 := Tryd.isAgg155
  z40 := Tryd.sizeOf155
  v40 := Tryd.zeroValue155
  t46 := Tryd.underlying151
  a46 := Tryd.isAgg151
  z46 := Tryd.sizeOf151
  v46 := Tryd.zeroValue151
  t49 := Tryd.underlying168
  a49 := Tryd.isAgg168
  z49 := Tryd.sizeOf168
  v49 := Tryd.zeroValue168
  t51 := Tryd.underlying148
  a51 := Tryd.isAgg148
  z51 := Tryd.sizeOf148
  v51 := Tryd.zeroValue148
  t119 := Tryd.underlying153
  a119 := Tryd.isAgg153
  z119 := Tryd.sizeOf153
  t141 := Tryd.underlying161
  a141 := Tryd.isAgg161
  z141 := Tryd.sizeOf161
  v141 := Tryd.zeroValue161
  t152 := Tryd.underlying157
  a152 := Tryd.isAgg157
  z152 := Tryd.sizeOf157
  v152 := Tryd.zeroValue157
  t154 := Tryd.underlying159
  a154 := Tryd.isAgg159
  z154 := Tryd.sizeOf159
  v154 := Tryd.zeroValue159
  t193 := Tryd.underlying164
  a193 := Tryd.isAgg164
  z193 := Tryd.sizeOf164
  v193 := Tryd.zeroValue164
  t194 := Tryd.underlying165
  a194 := Tryd.isAgg165
  z194 := Tryd.sizeOf165
  v194 := Tryd.zeroValue165
  t196 := Tryd.underlying167
  a196 := Tryd.isAgg167
  z196 := Tryd.sizeOf167
  v196 := Tryd.zeroValue167
  t198 := Tryd.underlying170
  a198 := Tryd.isAgg170
  z198 := Tryd.sizeOf170
  v198 := Tryd.zeroValue170
  t201 := Tryd.underlying173
  a201 := Tryd.isAgg173
  z201 := Tryd.sizeOf173
  v201 := Tryd.zeroValue173
  t226 := Tryd.underlying175
  a226 := Tryd.isAgg175
  z226 := Tryd.sizeOf175
  v226 := Tryd.zeroValue175
  t227 := Tryd.underlying176
  a227 := Tryd.isAgg176
  z227 := Tryd.sizeOf176
  v227 := Tryd.zeroValue176
  g0 := by kernel_rfl
  g6 := by kernel_rfl }
end Go.Proofs
namespace Go.Proofs.YtahciphhopiipaaDoor
open Go Go.RowKit V

theorem fields_v (s : ByteArray) (hs : s.size < 4294967281) (hascii : ∀ (j : Nat) b, s.data.toList[j]? = some b → b.toNat < 128) :
    CallV Tryd.prog 103 [.lf (.im true (.str s))] (· = .lf (.im true (.sl 1 (((Lib.fields s.data.toList).map fun l => (⟨l.toArray⟩ : ByteArray)).map rS)))) := by
  intro g w vs hl h1 h2 h3 h4
  obtain ⟨v, rfl⟩ : ∃ v, vs = #[v] := by
    have : vs.size = 1 := h3
    match vs, this with
    | ⟨[v]⟩, _ => exact ⟨v, rfl⟩
  have hv : SRep (Imm g true) w v (.str s) := h4 0 _ v rfl rfl
  cases hv
  refine (Go.Proofs.Any.strings_Fields_core Tryd.lays157 (by kernel_rfl) s w hs hascii hl.1).mono fun e w' ⟨he, hw⟩ => ?_
  subst hw
  have hg0 : g w.heap.size = .none := h2 _ (Nat.le_refl _)
  refine ⟨_, fun b => if b = w.heap.size then .imm else g b, _, he, (Below.refl _ w).alloc (Nat.le_refl _) _, rfl, ?_, ?_, ?_, ?_, ?_⟩
  · show SRep _ _ _ _
    refine .sl w.heap.size 0 _ _ 1 _ (fun k => (((Lib.fields s.data.toList).map fun l => Value.string ⟨l.toArray⟩)[k]?).getD undef) (by simp) (Nat.le_refl _) ?_ (.inl (by simp)) ?_ ?_
    · intro r hr
      obtain ⟨x, -, rfl⟩ := List.mem_map.1 hr
      rfl
    · intro i r j x hr hx
      rw [List.getElem?_map, Option.map_eq_some_iff] at hr
      obtain ⟨t, ht, rfl⟩ := hr
      rw [List.getElem?_map, Option.map_eq_some_iff] at ht
      obtain ⟨l, hl2, rfl⟩ := ht
      have hj : j = 0 := by
        cases j with
        | zero => rfl
        | succ j => simp [rS] at hx
      subst hj
      unfold World.cell?
      have e0 : (w.alloc (.cells ((Lib.fields s.data.toList).map fun l => Value.string ⟨l.toArray⟩).toArray (Tryd.lays157_ren.t 9))).heap[w.heap.size]? = some (.cells ((Lib.fields s.data.toList).map fun l => Value.string ⟨l.toArray⟩).toArray (Tryd.lays157_ren.t 9)) := by
        show (w.heap.push _)[w.heap.size]? = _
        simp
      simp only [e0]
      simp [hl2]
    · intro i r j x hr hx
      rw [List.getElem?_map, Option.map_eq_some_iff] at hr
      obtain ⟨t, ht, rfl⟩ := hr
      rw [List.getElem?_map, Option.map_eq_some_iff] at ht
      obtain ⟨l, hl2, rfl⟩ := ht
      have hj : j = 0 := by
        cases j with
        | zero => rfl
        | succ j => simp [rS] at hx
      subst hj
      have hx2 : x = .str ⟨l.toArray⟩ := by simpa [rS] using hx.symm
      subst hx2
      simp only [Nat.mul_one, Nat.add_zero, List.getElem?_map, hl2, Option.map_some, Option.getD_some]
      exact .str _
  · intro b hb
    have : b ≠ w.heap.size := by omega
    simp [this]
  · intro b hb
    have hs : (w.alloc (.cells ((Lib.fields s.data.toList).map fun l => Value.string ⟨l.toArray⟩).toArray (Tryd.lays157_ren.t 9))).heap.size = w.heap.size + 1 := by
      show (w.heap.push _).size = _
      simp
    rw [hs] at hb
    have : b ≠ w.heap.size := by omega
    simp [this]
    exact h2 b (by omega)
  · intro b k i j e0
    by_cases e1 : b = w.heap.size
    · simp [e1] at e0
    · simp [e1] at e0; exact absurd e0 (h1 b _ _ _)
  · intro b b' k i j e0 e1
    by_cases q1 : b = w.heap.size
    · simp [q1] at e0
    · simp [q1] at e0; exact absurd e0 (h1 b _ _ _)
def C1 : ByteArray := ⟨#[116, 114, 117, 101, 32, 102, 97, 108, 115, 101, 32, 109, 101, 32, 97, 100, 100, 32, 115, 117, 98, 32, 109, 117, 108, 32, 100, 105, 118, 32, 109, 111, 100, 32, 108, 101, 115, 115, 32, 115, 97, 109, 101, 32, 97, 110, 100, 32, 111, 114, 32, 110, 111, 116]⟩
def C2 : ByteArray := ⟨#[107, 101, 101, 112, 32, 116, 97, 107, 101, 32, 104, 97, 115, 32, 115, 101, 101, 32, 115, 101, 101, 119]⟩
theorem fields1 : CallV Tryd.prog 103 [.lf (.im true (.str C1))] (· = .lf (.im true (.sl 1 (W1.map rS)))) := by
  have hb : ∀ b ∈ C1.data.toList, b.toNat < 128 := by decide +kernel
  have h := fields_v C1 (by decide +kernel) (fun j b h => hb b (List.mem_of_getElem? h))
  have e : (Lib.fields C1.data.toList).map (fun l => (⟨l.toArray⟩ : ByteArray)) = W1 := by decide +kernel
  rwa [e] at h
theorem fields2 : CallV Tryd.prog 103 [.lf (.im true (.str C2))] (· = .lf (.im true (.sl 1 (W2.map rS)))) := by
  have hb : ∀ b ∈ C2.data.toList, b.toNat < 128 := by decide +kernel
  have h := fields_v C2 (by decide +kernel) (fun j b h => hb b (List.mem_of_getElem? h))
  have e : (Lib.fields C2.data.toList).map (fun l => (⟨l.toArray⟩ : ByteArray)) = W2 := by decide +kernel
  rwa [e] at h
end Go.Proofs.YtahciphhopiipaaDoor
