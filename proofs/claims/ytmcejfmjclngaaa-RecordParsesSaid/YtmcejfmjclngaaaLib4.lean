/- The library of the second stage: bytes that are built, made; an array's element as a value. -/
import Derived.Test.YtmcejfmjclngaaaLib3
import Derived.Test.YtmcejfmjclngaaaNum
set_option linter.unusedSimpArgs false
set_option linter.unusedVariables false
namespace Go.Eng
open Go

/-- A number's lowest byte. -/
def u8 (x : Int) : UInt8 := UInt8.ofNat (x % 256).toNat
theorem wrap_u8_b (x : Int) : IntKind.wrap .u8 x = ((u8 x).toNat : Int) := by
  rw [wrap_u8_mod]
  have h1 := Int.emod_nonneg x (show (256 : Int) ≠ 0 by omega)
  have h2 := Int.emod_lt_of_pos x (show (0 : Int) < 256 by omega)
  unfold u8
  simp only [UInt8.toNat_ofNat']
  omega
theorem u8_toNat {x : Int} (h0 : 0 ≤ x) (h1 : x ≤ 255) : ((u8 x).toNat : Int) = x := by rw [← wrap_u8_b, wrap_u8 h0 h1]
theorem u8_of (b : UInt8) : u8 (b.toNat : Int) = b := by
  apply UInt8.toNat_inj.1
  have := u8_toNat (x := (b.toNat : Int)) (by omega) (by have := b.toNat_lt; omega)
  omega
theorem fill_dense : ∀ (vs : List Value) (k : Nat) (cells : Array Value), (∀ v ∈ vs, v.cells.size = 1 ∧ v.cells = #[v]) → k + vs.length ≤ cells.size →
    Instr.fill (fun i => some (i * 1, 1)) cells ((vs.zipIdx k).map fun x => (x.2, x.1)) = some (cells.toList.take k ++ vs ++ cells.toList.drop (k + vs.length)).toArray
  | [], k, cells, _, h => by simp [Instr.fill]
  | v :: vs, k, cells, hv, h => by
    have h1 := hv v (by simp)
    have hl : k < cells.size := by simp at h; omega
    have ih := fill_dense vs (k + 1) (cells.setIfInBounds k v) (fun v hm => hv v (by simp [hm])) (by simp at h ⊢; omega)
    have hne : ¬ (cells.size < k + 1) := by omega
    simp only [Nat.mul_one] at ih ⊢
    simp only [List.zipIdx_cons, List.map_cons, Instr.fill, h1.2]
    simp only [List.size_toArray, List.length_cons, List.length_nil, Nat.zero_add, bne_self_eq_false, Bool.false_or, decide_eq_true_eq]
    rw [if_neg (by simp; omega)]
    rw [show (#[v].zipIdx.foldl (fun cs x => cs.setIfInBounds (k + x.2) x.1) cells) = cells.setIfInBounds k v by simp]
    rw [ih]
    have e := list_seg_step cells.toList k v vs (by simp at h ⊢; omega)
    simp only [Array.toList_setIfInBounds]
    rw [e]
section
variable {P : Program} {w : World}
/-- '[]byte{..}', each byte given. -/
theorem buildB_i {t e : Nat} {z : Value} [SliceTy P t e 1 z] {n : Nat} {parts : Array (Nat × Value)} (bs : List UInt8) {K : Sl → World → Prop} (hp : parts.toList = ((bs.map vB).zipIdx 0).map fun x => (x.2, x.1)) (hn : bs.length = n) (hle : n ≤ 16777216)
    (hK : ∀ v w', Ext w w' → OwnB w' w.heap.size v bs → K v w') : semS P (Instr.buildSlice t n parts) (.one .slc) K w := by
  refine buildSlice_i (bs.map vB).toArray ?_ (by simp [hn]) (by omega) fun v w1 e1 o1 hl => hK v w1 e1 (by simpa using o1)
  rw [hp, fill_dense (bs.map vB) 0 _ (fun v hv => ?_) (by simp [hn])]
  · simp [hn, List.drop_of_length_le]
  · obtain ⟨b, _, rfl⟩ := List.mem_map.1 hv; exact ⟨rfl, rfl⟩
/-- 'make([]T, n)' -/
theorem make_i {t e sz : Nat} {z : Value} [h : SliceTy P t e sz z] {n : Int} {K : Sl → World → Prop} (h0 : 0 ≤ n) (h1 : n ≤ 68719476736)
    (hK : ∀ v w', Ext w w' → Own w' w.heap.size v sz (Builtin.zeroCells z.cells n.toNat).toList → v.len = n.toNat → K v w') : semS P (Instr.makeSlice t (.int .i64 n) (.int .i64 n)) (.one .slc) K w := by
  obtain ⟨i, hi1, hi2, hi3, hi4, hi5, hi6⟩ := h.info
  have hw : IntKind.i64.wrap n = n := wrap_i64 (by omega) (by omega)
  have hneg : ¬ n < 0 := by omega
  have hb : (i.bytes : Int) * n ≤ 2048 * 68719476736 := Int.mul_le_mul (by omega) h1 h0 (by omega)
  have hbig : ¬ (281474976710656 < (i.bytes : Int) * n) := by omega
  obtain ⟨m, rfl⟩ : ∃ m : Nat, n = m := ⟨n.toNat, by omega⟩
  refine ⟨Lf.enc .slc ⟨some ⟨w.heap.size, 0, none⟩, m, m⟩, w.alloc (.cells (Builtin.zeroCells z.cells m) e), ?_, one_dec (l := .slc) (hK ⟨some ⟨w.heap.size, 0, none⟩, m, m⟩ _ (Ext.alloc _ _) ?_ (by simp))⟩
  · by_cases hm : m * sz = 0
    · have hz : Builtin.zeroCells z.cells m = #[] := by
        apply Array.eq_empty_of_size_eq_zero
        rw [size_zeroCells, hi5, hm]
      simp [Instr.makeSlice, run_underlying h.und, asInt, asIntOf, typeInfo, hi1, hw, hneg, hbig, sizeOf, hi2, hm, newRow, hz, Lf.enc]
      rw [show Array.map (fun (x : Nat) => (default : Value)) (Array.range 0) = #[] by simp]
    · have hz : Builtin.zeroCells z.cells m = (Array.range (m * sz)).map (fun i => z.cells[i % z.cells.size]!) := by simp [Builtin.zeroCells, hi5]
      simp [Instr.makeSlice, run_underlying h.und, asInt, asIntOf, typeInfo, hi1, hw, hneg, hbig, sizeOf, hi2, hm, newRow, zeroValue, hi3, hz, Lf.enc]
  · have := Own.fresh (w := w) (cells := Builtin.zeroCells z.cells m) (e := e) (n := m) (c := m) (sz := sz) (B := w.heap.size) (fz := (0, 0)) (Nat.le_refl _) (by rw [size_zeroCells, hi5]) (Nat.le_refl _) fz0
    rwa [List.take_of_length_le (by rw [Array.length_toList, size_zeroCells, hi5]; exact Nat.le_refl _)] at this
theorem makeB_i {t e : Nat} [h : SliceTy P t e 1 (.int .u8 0)] {n : Int} {K : Sl → World → Prop} (h0 : 0 ≤ n) (h1 : n ≤ 68719476736) (hK : ∀ v w', Ext w w' → OwnB w' w.heap.size v (List.replicate n.toNat 0) → K v w') :
    semS P (Instr.makeSlice t (.int .i64 n) (.int .i64 n)) (.one .slc) K w :=
  make_i h0 h1 fun v w' e1 o1 hl => hK v w' e1 (by
    have hz0 : (Builtin.zeroCells (Value.int .u8 0).cells n.toNat).toList = List.replicate n.toNat (vB 0) := zeroCells_one _ _
    rw [hz0] at o1
    unfold OwnB
    rw [List.map_replicate]; exact o1)
/-- 'append(s, make([]byte, n)...)' -/
theorem appendZB_i {t ti ty e : Nat} [h : SliceTy P t e 1 (.int .u8 0)] [hti : IntTy P ti] {s : Sl} {bs : List UInt8} {B : Nat} {K : Sl → World → Prop} {n : Int} (ho : OwnB w B s bs) (hn0 : 0 ≤ n) (hlen : bs.length + n ≤ 68719476736) (hB : B ≤ w.heap.size)
    (hK : ∀ v w', Fr s.inB w w' → OwnB w' B v (bs ++ List.replicate n.toNat 0) → (∀ k, v.inB k → s.inB k ∨ w.heap.size ≤ k) → K v w') : semS P (Builtin.append_ #[t, ti] ty #[.slice s.a s.len s.cap, .int .i64 n]) (.one .slc) K w := by
  have hz0 : (Builtin.zeroCells (Value.int .u8 0).cells n.toNat).toList = List.replicate n.toNat (vB 0) := zeroCells_one _ _
  refine appendZ_i ho hn0 ?_ (by rw [OwnB.len ho]; exact hlen) hB fun v w2 f2 o2 hl2 hin => hK v w2 f2 ?_ hin
  · rw [hz0]; intro x hx; rw [List.eq_of_mem_replicate hx]; rfl
  · rw [hz0] at o2
    unfold OwnB
    rw [List.map_append, List.map_replicate]; exact o2
/-- An element of an array, a value. -/
theorem ixV_i {t k e sz : Nat} [h : ArrTy P t k e sz] [AggTy P e sz] {ls : List Lf} {cs : List Value} {i : Int} {K : curL ls (World → Prop)} (h0 : 0 ≤ i) (h1 : i < k) (hK : decL ls ((cs.drop (i.toNat * sz)).take sz) K fun r => r w) :
    semS P (Instr.index t (.agg cs.toArray) (.int .i64 i)) (.agg ls) K w := by
  refine ⟨.agg ((cs.drop (i.toNat * sz)).take sz).toArray, w, ?_, by simpa [Ty.dec] using hK⟩
  simp only [Instr.index, asIntOf, Sem.run_bind, Sem.run_pure, Result.andThen_ok, run_underlying h.und, h0, h1, and_self, if_true, h.size w, part, isAgg_agg e (n := sz)]
  congr 2
  apply Array.ext'
  simp [List.take_drop]
end
end Go.Eng
