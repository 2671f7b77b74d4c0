/- The library of the second stage: bytes that are built, made; an array's element as a value. -/
import Derived.Test.YteopoodhclljjaaGreatDoorLib3
import Derived.Test.YteopoodhclljjaaGreatDoorNum
set_option linter.unusedSimpArgs false
set_option linter.unusedVariables false
namespace Go.Eng
open Go

/-- A number's lowest byte. -/
def u8 (x : Int) : UInt8 := UInt8.ofNat (x % 256).toNat
theorem wrap_u8_b (x : Int) : IntKind.wrap .u8 x = ((u8 x).toNat : Int) := by
  rw [wrap_u8_mod]
  have h1 := Int.emod_nonneg x (show (256 : Int) ≠ 0 by omega)
  have h2 := Int.emod_lt_of_pos x (show (0 : Int) < 256 by omega)
  unfold u8
  simp only [UInt8.toNat_ofNat']
  omega
theorem u8_toNat {x : Int} (h0 : 0 ≤ x) (h1 : x ≤ 255) : ((u8 x).toNat : Int) = x := by rw [← wrap_u8_b, wrap_u8 h0 h1]
theorem u8_of (b : UInt8) : u8 (b.toNat : Int) = b := by
  apply UInt8.toNat_inj.1
  have := u8_toNat (x := (b.toNat : Int)) (by omega) (by have := b.toNat_lt; omega)
  omega
theorem fill_dense : ∀ (vs : List Value) (k : Nat) (cells : Array Value), (∀ v ∈ vs, v.cells.size = 1 ∧ v.cells = #[v]) → k + vs.length ≤ cells.size →
    Instr.fill (fun i => some (i * 1, 1)) cells ((vs.zipIdx k).map fun x => (x.2, x.1)) = some (cells.toList.take k ++ vs ++ cells.toList.drop (k + vs.length)).toArray
  | [], k, cells, _, h => by simp [Instr.fill]
  | v :: vs, k, cells, hv, h => by
    have h1 := hv v (by simp)
    have hl : k < cells.size := by simp at h; omega
    have ih := fill_dense vs (k + 1) (cells.setIfInBounds k v) (fun v hm => hv v (by simp [hm])) (by simp at h ⊢; omega)
    have hne : ¬ (cells.size < k + 1) := by omega
    simp only [Nat.mul_one] at ih ⊢
    simp only [List.zipIdx_cons, List.map_cons, Instr.fill, h1.2]
    simp only [List.size_toArray, List.length_cons, List.length_nil, Nat.zero_add, bne_self_eq_false, Bool.false_or, decide_eq_true_eq]
    rw [if_neg (by simp; omega)]
    rw [show (#[v].zipIdx.foldl (fun cs x => cs.setIfInBounds (k + x.2) x.1) cells) = cells.setIfInBounds k v by simp]
    rw [ih]
    have e := list_seg_step cells.toList k v vs (by simp at h ⊢; omega)
    simp only [Array.toList_setIfInBounds]
    rw [e]
section
variable {P : Program} {w : World}
/-- '[]byte{..}', each byte given. -/
theorem buildB_i {t e : Nat} {z : Value} [SliceTy P t e 1 z] {n : Nat} {parts : Array (Nat × Value)} (bs : List UInt8) {K : Sl → World → Prop} (hp : parts.toList = ((bs.map vB).zipIdx 0).map fun x => (x.2, x.1)) (hn : bs.length = n) (hle : n ≤ 16777216)
    (hK : ∀ v w', Ext w w' → OwnB w' w.heap.size v bs → K v w') : semS P (Instr.buildSlice t n parts) (.one .slc) K w := by
  refine buildSlice_i (bs.map vB).toArray ?_ (by simp [hn]) (by omega) fun v w1 e1 o1 hl => hK v w1 e1 (by simpa using o1)
  rw [hp, fill_dense (bs.map vB) 0 _ (fun v hv => ?_) (by simp [hn])]
  · simp [hn, List.drop_of_length_le]
  · obtain ⟨b, _, rfl⟩ := List.mem_map.1 hv; exact ⟨rfl, rfl⟩
/-- 'make([]T, n)' -/
theorem make_i {t e sz : Nat} {z : Value} [h : SliceTy P t e sz z] {n : Int} {K : Sl → World → Prop} (h0 : 0 ≤ n) (h1 : n ≤ 68719476736)
    (hK : ∀ v w', Ext w w' → Own w' w.heap.size v sz (Builtin.zeroCells z.cells n.toNat).toList → v.len = n.toNat → K v w') : semS P (Instr.makeSlice t (.int .i64 n) (.int .i64 n)) (.one .slc) K w := by
  obtain ⟨i, hi1, hi2, hi3, hi4, hi5, hi6⟩ := h.info
  have hw : IntKind.i64.wrap n = n := wrap_i64 (by omega) (by omega)
  have hneg : ¬ n < 0 := by omega
  have hb : (i.bytes : Int) * n ≤ 2048 * 68719476736 := Int.mul_le_mul (by omega) h1 h0 (by omega)
  have hbig : ¬ (281474976710656 < (i.bytes : Int) * n) := by omega
  obtain ⟨m, rfl⟩ : ∃ m : Nat, n = m := ⟨n.toNat, by omega⟩
  refine ⟨Lf.enc .slc ⟨some ⟨w.heap.size, 0, none⟩, m, m⟩, w.alloc (.cells (Builtin.zeroCells z.cells m) e), ?_, one_dec (l := .slc) (hK ⟨some ⟨w.heap.size, 0, none⟩, m, m⟩ _ (Ext.alloc _ _) ?_ (by simp))⟩
  · by_cases hm : m * sz = 0
    · have hz : Builtin.zeroCells z.cells m = #[] := by
        apply Array.eq_empty_of_size_eq_zero
        rw [size_zeroCells, hi5, hm]
      simp [Instr.makeSlice, run_underlying h.und, asInt, asIntOf, typeInfo, hi1, hw, hneg, hbig, sizeOf, hi2, hm, newRow, hz, Lf.enc]
      rw [show Array.map (fun (x : Nat) => (default : Value)) (Array.range 0) = #[] by simp]
    · have hz : Builtin.zeroCells z.cells m = (Array.range (m * sz)).map (fun i => z.cells[i % z.cells.size]!) := by simp [Builtin.zeroCells, hi5]
      simp [Instr.makeSlice, run_underlying h.und, asInt, asIntOf, typeInfo, hi1, hw, hneg, hbig, sizeOf, hi2, hm, newRow, zeroValue, hi3, hz, Lf.enc]
  · have := Own.fresh (w := w) (cells := Builtin.zeroCells z.cells m) (e := e) (n := m) (c := m) (sz := sz) (B := w.heap.size) (fz := (0, 0)) (Nat.le_refl _) (by rw [size_zeroCells, hi5]) (Nat.le_refl _) fz0
    rwa [List.take_of_length_le (by rw [Array.length_toList, size_zeroCells, hi5]; exact Nat.le_refl _)] at this
theorem makeB_i {t e : Nat} [h : SliceTy P t e 1 (.int .u8 0)] {n : Int} {K : Sl → World → Prop} (h0 : 0 ≤ n) (h1 : n ≤ 68719476736) (hK : ∀ v w', Ext w w' → OwnB w' w.heap.size v (List.replicate n.toNat 0) → K v w') :
    semS P (Instr.makeSlice t (.int .i64 n) (.int .i64 n)) (.one .slc) K w :=
  make_i h0 h1 fun v w' e1 o1 hl => hK v w' e1 (by
    have hz0 : (Builtin.zeroCells (Value.int .u8 0).cells n.toNat).toList = List.replicate n.toNat (vB 0) := zeroCells_one _ _
    rw [hz0] at o1
    unfold OwnB
    rw [List.map_replicate]; exact o1)
/-- 'append(s, make([]byte, n)...)' -/
theorem appendZB_i {t ti ty e : Nat} [h : SliceTy P t e 1 (.int .u8 0)] [hti : IntTy P ti] {s : Sl} {bs : List UInt8} {B : Nat} {K : Sl → World → Prop} {n : Int} (ho : OwnB w B s bs) (hn0 : 0 ≤ n) (hlen : bs.length + n ≤ 68719476736) (hB : B ≤ w.heap.size)
    (hK : ∀ v w', Fr s.inB w w' → OwnB w' B v (bs ++ List.replicate n.toNat 0) → (∀ k, v.inB k → s.inB k ∨ w.heap.size ≤ k) → K v w') : semS P (Builtin.append_ #[t, ti] ty #[.slice s.a s.len s.cap, .int .i64 n]) (.one .slc) K w := by
  have hz0 : (Builtin.zeroCells (Value.int .u8 0).cells n.toNat).toList = List.replicate n.toNat (vB 0) := zeroCells_one _ _
  refine appendZ_i ho hn0 ?_ (by rw [OwnB.len ho]; exact hlen) hB fun v w2 f2 o2 hl2 hin => hK v w2 f2 ?_ hin
  · rw [hz0]; intro x hx; rw [List.eq_of_mem_replicate hx]; rfl
  · rw [hz0] at o2
    unfold OwnB
    rw [List.map_append, List.map_replicate]; exact o2
/-- An element of an array, a value. -/
theorem ixV_i {t k e sz : Nat} [h : ArrTy P t k e sz] [AggTy P e sz] {ls : List Lf} {cs : List Value} {i : Int} {K : curL ls (World → Prop)} (h0 : 0 ≤ i) (h1 : i < k) (hK : decL ls ((cs.drop (i.toNat * sz)).take sz) K fun r => r w) :
    semS P (Instr.index t (.agg cs.toArray) (.int .i64 i)) (.agg ls) K w := by
  refine ⟨.agg ((cs.drop (i.toNat * sz)).take sz).toArray, w, ?_, by simpa [Ty.dec] using hK⟩
  simp only [Instr.index, asIntOf, Sem.run_bind, Sem.run_pure, Result.andThen_ok, run_underlying h.und, h0, h1, and_self, if_true, h.size w, part, isAgg_agg e (n := sz)]
  congr 2
  apply Array.ext'
  simp [List.take_drop]
/-! ### elements of arrays and slices, read and written -/
theorem append1V_i {t e : Nat} {z : Value} [SliceTy P t e 1 z] {s : Sl} {cs : List Value} {B : Nat} {K : Sl → World → Prop} (u : Value) (hu : u.cells = #[u]) (hu1 : u.oneCell' = true) (ho : Own w B s 1 cs) (hlen : s.len ≤ 68719476735) (hB : B ≤ w.heap.size)
    (hK : ∀ v w', Fr s.inB w w' → Own w' B v 1 (cs ++ [u]) → (∀ k, v.inB k → s.inB k ∨ w.heap.size ≤ k) → K v w') :
    semS P (Instr.buildSlice t 1 #[(0, u)]) (.one .slc) (fun x w => semS P (Builtin.append_ #[t, t] t #[.slice s.a s.len s.cap, .slice x.a x.len x.cap]) (.one .slc) K w) w := by
  refine buildSlice_i (t := t) (e := e) (z := z) #[u] ?_ rfl (by omega) fun x w1 e1 o1 hl => ?_
  · have := fill_dense [u] 0 ((Array.range (1 * 1)).map (fun i => (if 1 * 1 = 0 then #[] else z.cells)[i % (if 1 * 1 = 0 then #[] else z.cells).size]!)) (fun v hv => by simp at hv; subst hv; rw [hu]; exact ⟨rfl, rfl⟩) (by simp)
    rw [show (#[(0, u)] : Array (Nat × Value)).toList = ([u].zipIdx 0).map fun x => (x.2, x.1) by rfl, this]
    simp
  · refine append_i (Own.ext ho e1) o1.rd (fun v hv => by simp at hv; subst hv; exact hu1) (by omega) (by have := e1.size; omega) fun v w2 f2 o2 hl2 hin => ?_
    refine hK v w2 (Fr.trans (Ext.fr e1) f2 (fun _ _ h => h)) (by simpa using o2) fun k hk => ?_
    rcases hin k hk with h | h
    · exact .inl h
    · have := e1.size; exact .inr (by omega)
theorem elemQ_i {t e : Nat} {z : Value} [SliceTy P t e 1 z] [LeafTy P e] {s : Sl} {cs : List Value} {i : Int} {l : Lf} {x : l.T} {C : World → Prop} {K : l.T → Prop} {a : Addr} (ha : s.a = some a) (hs : ∀ w, C w → Rd w s 1 cs) (h0 : 0 ≤ i) (h1 : i < s.len) (hx : cs[i.toNat]? = some (l.enc x)) (hK : K x) :
    semQ P C (Instr.indexAt t (.slice s.a s.len s.cap) (.int .i64 i)) (.one .adr) (fun a => semQ P C (Instr.loadAt e (.pointer (some a))) (.one l) K) :=
  ixQ_i ha h0 h1 (ldQ_i x (fun w hw => by simpa using (hs w hw).cells a ha _ _ hx) hK)
theorem at_add (g o i : Nat) : (at_ g o).add i = at_ g (o + i) := Addr.add_lit g o i
theorem elA_i {t k e : Nat} [ArrTy P t k e 1] [LeafTy P e] {g o : Nat} {cs : List Value} {i : Int} {l : Lf} {x : l.T} {K : l.T → World → Prop} (h : Var w g cs) (h0 : 0 ≤ i) (h1 : i < k) (hx : cs[o + i.toNat]? = some (l.enc x)) (hK : K x w) :
    semS P (Instr.indexAt t (.pointer (some (at_ g o))) (.int .i64 i)) (.one .adr) (fun a w => semS P (Instr.loadAt e (.pointer (some a))) (.one l) K w) w := by
  refine ixA_i h0 h1 ?_
  rw [Nat.mul_one, at_add]
  exact ld1_i x h hx hK
theorem elAQ_i {t k e : Nat} [ArrTy P t k e 1] [LeafTy P e] {g o : Nat} {cs : List Value} {i : Int} {l : Lf} {x : l.T} {C : World → Prop} {K : l.T → Prop} (h : ∀ w, C w → Var w g cs) (h0 : 0 ≤ i) (h1 : i < k) (hx : cs[o + i.toNat]? = some (l.enc x)) (hK : K x) :
    semQ P C (Instr.indexAt t (.pointer (some (at_ g o))) (.int .i64 i)) (.one .adr) (fun a => semQ P C (Instr.loadAt e (.pointer (some a))) (.one l) K) := by
  refine ixAQ_i h0 h1 ?_
  rw [Nat.mul_one, at_add]
  exact ld1Q_i x h hx hK
theorem stA_i {t k e : Nat} [ArrTy P t k e 1] [LeafTy P e] {g o : Nat} {cs : List Value} {i : Int} {u : Value} {K : World → Prop} (h : Var w g cs) (h0 : 0 ≤ i) (h1 : i < k) (ho : o + i.toNat < cs.length) (hu : u.oneCell' = true) (hK : ∀ w', Fr (fun k => k = g) w w' → Var w' g (cs.set (o + i.toNat) u) → K w') :
    semS P (Instr.indexAt t (.pointer (some (at_ g o))) (.int .i64 i)) (.one .adr) (fun a w => semU P (Instr.storeAt e (.pointer (some a)) u) K w) w := by
  refine ixA_i h0 h1 ?_
  rw [Nat.mul_one, at_add]
  exact st1_i h ho hu hK
/-- A whole array of numbers. -/
theorem ldArr_i {t n : Nat} [AggTy P t n] {k : IntKind} {g : Nat} {xs : List Int} {K : List Int → World → Prop} (h : Var w g (xs.map (Value.int k))) (hn : xs.length = n) (hK : K xs w) : semS P (Instr.loadAt t (.pointer (some (at_ g 0)))) (.one (.arr k)) K w := by
  refine ⟨.agg (xs.map (Value.int k)).toArray, w, ?_, ⟨xs, rfl, hK⟩⟩
  have := loadVar_agg (P := P) (w := w) t (n := n) (a := at_ g 0) (cs := xs.map (Value.int k)) (by simpa using hn) (fun j v hv => by rw [at_add, Nat.zero_add]; exact h.cell hv)
  simp [Instr.loadAt, Instr.sureAddr, this]
theorem int_one {k : IntKind} {xs : List Int} : ∀ v ∈ xs.map (Value.int k), v.oneCell' = true := fun v hv => by obtain ⟨x, _, rfl⟩ := List.mem_map.1 hv; rfl
theorem stArr_i {t n : Nat} [AggTy P t n] {k : IntKind} {g : Nat} {cs : List Value} {xs : List Int} {K : World → Prop} (h : Var w g cs) (hn : xs.length = n) (hc : cs.length = n) (hK : ∀ w', Fr (fun k => k = g) w w' → Var w' g (xs.map (Value.int k)) → K w') :
    semU P (Instr.storeAt t (.pointer (some (at_ g 0))) (.agg (List.map (Value.int k) xs).toArray)) K w :=
  stV_i (n := n) (vs := xs.map (Value.int k)) 0 h (by simpa using hn) (by omega) int_one fun w' h1 h2 => hK w' h1 (by simpa [List.drop_of_length_le (show cs.length ≤ n by omega)] using h2)
theorem ixL_i {t k e : Nat} [h : ArrTy P t k e 1] [LeafTy P e] {cs : List Value} {i : Int} {l : Lf} {x : l.T} {K : l.T → World → Prop} (h0 : 0 ≤ i) (h1 : i < k) (hx : cs[i.toNat]? = some (l.enc x)) (hK : K x w) :
    semS P (Instr.index t (.agg cs.toArray) (.int .i64 i)) (.one l) K w := by
  refine ⟨l.enc x, w, ?_, one_dec hK⟩
  simp only [Instr.index, asIntOf, Sem.run_bind, Sem.run_pure, Result.andThen_ok, run_underlying h.und, h0, h1, and_self, if_true, h.size w, part, isAgg_leaf e, Nat.mul_one]
  simp [hx]
/-- 'T{..}', each element given, of one cell. -/
theorem buildV_i {t e : Nat} {z : Value} [SliceTy P t e 1 z] {n : Nat} {parts : Array (Nat × Value)} (vs : List Value) {K : Sl → World → Prop} (hp : parts.toList = (vs.zipIdx 0).map fun x => (x.2, x.1)) (h1 : ∀ v ∈ vs, v.cells.size = 1 ∧ v.cells = #[v]) (hn : vs.length = n) (hle : n ≤ 16777216)
    (hK : ∀ v w', Ext w w' → Own w' w.heap.size v 1 vs → K v w') : semS P (Instr.buildSlice t n parts) (.one .slc) K w := by
  refine buildSlice_i vs.toArray ?_ (by simp [hn]) (by omega) fun v w1 e1 o1 hl => hK v w1 e1 (by simpa using o1)
  rw [hp, fill_dense vs 0 _ h1 (by simp [hn])]
  simp [hn, List.drop_of_length_le]
theorem int_cells {k : IntKind} {xs : List Int} : ∀ v ∈ xs.map (Value.int k), v.cells.size = 1 ∧ v.cells = #[v] := fun v hv => by obtain ⟨x, _, rfl⟩ := List.mem_map.1 hv; exact ⟨rfl, rfl⟩
/-- 'append([]T{}, s...)' -/
theorem copyV_i {t e : Nat} {z : Value} [SliceTy P t e 1 z] {s : Sl} {cs : List Value} {K : Sl → World → Prop} (hs : Rd w s 1 cs) (h1 : ∀ v ∈ cs, v.oneCell' = true) (hlen : s.len ≤ 68719476736) (hK : ∀ v w', Ext w w' → Own w' w.heap.size v 1 cs → K v w') :
    semS P (Instr.buildSlice t 0 #[]) (.one .slc) (fun x2 w => semS P (Builtin.append_ #[t, t] t #[.slice x2.a x2.len x2.cap, .slice s.a s.len s.cap]) (.one .slc) (fun r3 w => K r3 w) w) w := by
  refine buildSlice_i #[] (by simp [Instr.fill]) (by simp) (by omega) fun v w1 e1 o1 hl => ?_
  have hb : w.heap.size ≤ w1.heap.size := e1.size
  refine append_i o1 (hs.ext e1) h1 (by omega) hb fun v2 w2 f2 o2 hl2 hin => ?_
  exact hK v2 w2 (Ext.own e1 f2 fun i hi => (o1.inB hi).1) (by simpa using o2)
/-- 's[lo:hi:max]' -/
def Sl.cut3 (s : Sl) (sz l h m : Nat) : Sl := ⟨if m = l then s.a else s.a.map (·.add (l * sz)), h - l, m - l⟩
theorem sl3_i {t e sz : Nat} {z : Value} [h : SliceTy P t e sz z] {s : Sl} {lo hi mx : Int} {K : Sl → World → Prop} (h0 : 0 ≤ lo) (h1 : lo ≤ hi) (h2 : hi ≤ mx) (h3 : mx ≤ s.cap) (hK : K (s.cut3 sz lo.toNat hi.toNat mx.toNat) w) :
    semS P (Instr.sliceAt t (.slice s.a s.len s.cap) (some (.int .i64 lo)) (some (.int .i64 hi)) (some (.int .i64 mx))) (.one .slc) K w := by
  refine ⟨Lf.enc .slc (s.cut3 sz lo.toNat hi.toNat mx.toNat), w, ?_, one_dec (l := .slc) hK⟩
  have hb : ∀ c, (Instr.sliceBound (.int .i64 mx) s.cap c).run P w = .ok mx.toNat w := fun c => run_sliceBound (by omega) (by omega)
  have hb1 : ∀ c, (Instr.sliceBound (.int .i64 hi) mx.toNat c).run P w = .ok hi.toNat w := fun c => run_sliceBound (by omega) (by omega)
  have hb2 : ∀ c, (Instr.sliceBound (.int .i64 lo) hi.toNat c).run P w = .ok lo.toNat w := fun c => run_sliceBound (by omega) (by omega)
  simp [Instr.sliceAt, Instr.slice, run_underlying h.und, Instr.sliceBounds, hb, hb1, hb2, sizeOf_elem (t := t) (sz := sz), Sl.cut3, Lf.enc]
theorem Bts.cut3 {s : Sl} {bs : List UInt8} (h : Bts w s bs) {l hi : Nat} (h1 : l < hi) (h2 : hi ≤ bs.length) : Bts w (s.cut3 1 l hi hi) ((bs.drop l).take (hi - l)) := by
  have hc := Bts.cut h (l := l) (hi := hi) (by omega) h2
  have hcap := h.cap
  have hlen := Bts.len h
  obtain ⟨a, ha⟩ := Rd.some h (by omega)
  have e1 : (s.cut 1 l hi).a = some (a.add (l * 1)) := by simp only [Sl.cut, ha]; rw [if_neg (by omega)]; rfl
  have e2 : (s.cut3 1 l hi hi).a = some (a.add (l * 1)) := by simp only [Sl.cut3, ha]; rw [if_neg (by omega)]; rfl
  refine ⟨(by have := Rd.len hc; exact this), by simp [Sl.cut3], (fun h => by rw [e2] at h; cases h), fun b hb i v hv => Rd.cells hc b (by rw [e1, ← e2]; exact hb) i v hv⟩
end
end Go.Eng
