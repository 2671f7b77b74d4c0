/- The library of the second stage, more: rows that are made, appended to, copied. -/
import Derived.Test.YteopoodhclljjaaGreatDoorLib
import Derived.Lib.SlBytesConst
set_option linter.unusedSimpArgs false
set_option linter.unusedVariables false
namespace Go.Eng
open Go

section
variable {P : Program} {w : World}
theorem run_storeRow (g o : Nat) (t : TypeId) (fz : Nat × Nat) : ∀ (vs : List Value) (i : Nat) (cur : Array Value) (w : World), w.heap[g]? = some (.cells cur t fz) → (∀ j, j < cur.size → ¬ (fz.1 ≤ j ∧ j < fz.2)) → o + i + vs.length ≤ cur.size → (∀ v ∈ vs, v.oneCell' = true) →
    (storeCells ⟨g, o, none⟩ vs i).run P w = .ok () (w.setRow g (cur.toList.take (o + i) ++ vs ++ cur.toList.drop (o + i + vs.length)).toArray)
  | [], i, cur, w, hg, _, _, _ => by
    simp only [storeCells, List.append_nil, List.length_nil, Nat.add_zero, List.take_append_drop, Array.toArray_toList]
    rw [setRow_self w g cur t fz hg]
    rfl
  | v :: rest, i, cur, w, hg, hfz, hl, h1 => by
    have hi : o + i < cur.size := by simp at hl; omega
    have hadd : (⟨g, o, none⟩ : Addr).add i = ⟨g, o + i, none⟩ := by unfold Addr.add; split <;> simp_all
    have hcell : w.cell? ⟨g, o + i, none⟩ = some cur[o + i] := by simp [World.cell?, hg, hi]
    have hfro : w.frozen? ⟨g, o + i, none⟩ = false := by
      have := hfz (o + i) hi
      simp only [World.frozen?, hg]
      rw [Bool.eq_false_iff]
      intro hx
      simp only [Bool.and_eq_true, decide_eq_true_eq] at hx
      exact this hx
    have hst : (store ((⟨g, o, none⟩ : Addr).add i) v).run P w = .ok () (w.setRow g (cur.setIfInBounds (o + i) v)) := by
      rw [hadd, run_store P w _ v _ (h1 v (by simp)), hcell]
      simp [hfro, setCell_eq_setRow w g (o + i) cur t fz v hg]
    have ih := run_storeRow g o t fz rest (i + 1) (cur.setIfInBounds (o + i) v) (w.setRow g (cur.setIfInBounds (o + i) v)) (setRow_heap w g cur _ t _ hg) (by simpa using hfz) (by simp at hl ⊢; omega) (fun x hx => h1 x (by simp [hx]))
    simp only [storeCells, Sem.run_bind, hst, Result.andThen_ok, ih, setRow_setRow]
    congr 3
    have e := list_seg_step cur.toList (o + i) v rest (by simp at hl ⊢; omega)
    simpa [Array.toList_setIfInBounds, Nat.add_assoc] using e
theorem fr_setRow (w : World) (g : Nat) (c : Array Value) : Fr (fun k => k = g) w (w.setRow g c) :=
  ⟨rfl, rfl, rfl, by simp [World.setRow], fun k _ hk => setRow_other w g k c hk⟩

theorem Own.fresh {cells : Array Value} {e : TypeId} {n c sz B : Nat} {fz : Nat × Nat} (hB : B ≤ w.heap.size) (hs : cells.size = c * sz) (hn : n ≤ c) (hfz : ∀ i, i < cells.size → ¬ (fz.1 ≤ i ∧ i < fz.2)) :
    Own (w.alloc (.cells cells e fz)) B ⟨some ⟨w.heap.size, 0, none⟩, n, c⟩ sz (cells.toList.take (n * sz)) := by
  refine ⟨?_, hn, .inr ⟨w.heap.size, cells, e, fz, rfl, hB, heap_alloc_new w _, hfz, hs, rfl⟩⟩
  have : n * sz ≤ c * sz := Nat.mul_le_mul_right _ hn
  rw [List.length_take, Array.length_toList, hs, Nat.min_eq_left this]
theorem fz0 {n : Nat} : ∀ i, i < n → ¬ ((0, 0).1 ≤ i ∧ i < (0, 0).2) := fun i _ h => by have := h.2; simp at this

theorem buildSlice_i {t e sz : Nat} {z : Value} [h : SliceTy P t e sz z] {len : Nat} {parts : Array (Nat × Value)} (cells : Array Value) {K : Sl → World → Prop}
    (hf : Instr.fill (fun i => some (i * sz, sz)) ((Array.range (len * sz)).map (fun i => (if len * sz = 0 then #[] else z.cells)[i % (if len * sz = 0 then #[] else z.cells).size]!)) parts.toList = some cells)
    (hc : cells.size = len * sz) (hle : len * sz ≤ 16777216) (hK : ∀ v w', Ext w w' → Own w' w.heap.size v sz cells.toList → v.len = len → K v w') : semS P (Instr.buildSlice t len parts) (.one .slc) K w := by
  obtain ⟨i, h1, h2, h3, h4, h5, h6⟩ := h.info
  refine ⟨Lf.enc .slc ⟨some ⟨w.heap.size, 0, none⟩, len, len⟩, w.alloc (.cells cells e), ?_, one_dec (l := .slc) (hK _ _ (Ext.alloc _ _) ?_ rfl)⟩
  · have hle' : ¬ (len * sz > 2 ^ 24) := by omega
    have hle'' : ¬ (16777216 < len * sz) := by omega
    by_cases h0 : len * sz = 0
    · simp only [h0, if_true] at hf
      simp [Instr.buildSlice, run_underlying h.und, sizeOf_elem (t := t) (sz := sz), h0, zeroValue, typeInfo, h1, h3, newRow, Lf.enc] at hf ⊢
      simp [hf]
    · simp only [h0, if_false] at hf
      simp [Instr.buildSlice, run_underlying h.und, sizeOf_elem (t := t) (sz := sz), hle'', h0, zeroValue, typeInfo, h1, h3, newRow, Lf.enc] at hf ⊢
      simp [hf]
  · have := Own.fresh (w := w) (cells := cells) (e := e) (n := len) (c := len) (sz := sz) (B := w.heap.size) (fz := (0, 0)) (Nat.le_refl _) hc (Nat.le_refl _) fz0
    rwa [List.take_of_length_le (by simp [hc])] at this

/-- 'append(s, x...)' where s is nil or a row of one's own. -/
theorem append_i {t ty e sz : Nat} {z : Value} [h : SliceTy P t e sz z] {s x : Sl} {cs ds : List Value} {B : Nat} {K : Sl → World → Prop} (ho : Own w B s sz cs) (hx : Rd w x sz ds) (h1 : ∀ v ∈ ds, v.oneCell' = true)
    (hlen : s.len + x.len ≤ 68719476736) (hB : B ≤ w.heap.size) (hK : ∀ v w', Fr s.inB w w' → Own w' B v sz (cs ++ ds) → v.len = s.len + x.len → (∀ k, v.inB k → s.inB k ∨ w.heap.size ≤ k) → K v w') :
    semS P (Builtin.append_ #[t, t] ty #[.slice s.a s.len s.cap, .slice x.a x.len x.cap]) (.one .slc) K w := by
  obtain ⟨i, hi1, hi2, hi3, hi4, hi5, hi6⟩ := h.info
  have hxl := hx.len
  have hol := ho.len
  have hbytes : (s.len + x.len) * i.bytes ≤ 140737488355328 := by
    have : (s.len + x.len) * i.bytes ≤ 68719476736 * 2048 := Nat.mul_le_mul hlen hi4
    omega
  have hlen' : (cs ++ ds).length = (s.len + x.len) * sz := by rw [List.length_append, hol, hxl, Nat.add_mul]
  -- the new row, where it grows
  have grown : ∀ old, old < s.len + x.len → ∀ (G : Nat), s.len + x.len ≤ G → G ≤ maxLen →
      Own (w.drew.alloc (.cells (cs.toArray ++ ds.toArray ++ Builtin.zeroCells z.cells (G - (s.len + x.len))) e)) B ⟨some ⟨w.heap.size, 0, none⟩, s.len + x.len, G⟩ sz (cs ++ ds) := by
    intro old hold G hG hG'
    have hs : (cs.toArray ++ ds.toArray ++ Builtin.zeroCells z.cells (G - (s.len + x.len))).size = G * sz := by
      simp only [Array.size_append, List.size_toArray, size_zeroCells, hi5, hol, hxl, ← Nat.add_mul]
      congr 1; omega
    have := Own.fresh (w := w.drew) (cells := cs.toArray ++ ds.toArray ++ Builtin.zeroCells z.cells (G - (s.len + x.len))) (e := e) (n := s.len + x.len) (c := G) (sz := sz) (B := B) (fz := (0, 0)) hB hs hG fz0
    have ht : (cs.toArray ++ ds.toArray ++ Builtin.zeroCells z.cells (G - (s.len + x.len))).toList.take ((s.len + x.len) * sz) = cs ++ ds := by
      simp only [Array.toList_append, List.append_assoc]
      rw [← List.append_assoc, ← hlen']
      exact List.take_left
    rwa [ht] at this
  have hgfr : ∀ o, Fr s.inB w (w.drew.alloc o) := fun o => (Ext.trans (Ext.drew w) (Ext.alloc _ _)).fr
  by_cases hroom : s.len + x.len ≤ s.cap
  · -- it has room
    rcases ho.row with ⟨ha, h0, hc0⟩ | ⟨g, cur, e', fz, ha, hBg, hg, hfz, hcs, htk⟩
    · have hx0 : x.len = 0 := by omega
      have hd0 : ds = [] := List.eq_nil_of_length_eq_zero (by rw [hxl, hx0]; simp)
      have hc : cs = [] := List.eq_nil_of_length_eq_zero (by rw [hol, h0]; simp)
      refine ⟨.slice none 0 0, w, ?_, one_dec (l := .slc) (x := Sl.nil) (hK _ w (Fr.refl _ _) ?_ (by simp [h0, hx0]) (fun k hk => by obtain ⟨a, ha, _⟩ := hk; cases ha))⟩
      · rw [ha, h0, hc0, hx0]
        cases hxa : x.a <;> simp [Builtin.append_, run_underlying h.und, sizeOf, typeInfo, hi1, Builtin.lenOf, Builtin.firstCells, loadCells, loadCellsFrom]
      · rw [hc, hd0]; exact Own.nilSl _ _ _
    · have hfit : s.len * sz + ds.length ≤ cur.size := by rw [hxl, hcs, ← Nat.add_mul]; exact Nat.mul_le_mul_right _ hroom
      have hfc : (Builtin.firstCells sz x.len (.slice x.a x.len x.cap)).run P w = .ok ds.toArray w := by
        cases hxa : x.a with
        | none =>
          have := (hx.nil hxa).1
          have hd0 : ds = [] := List.eq_nil_of_length_eq_zero (by rw [hxl, this]; simp)
          rw [hd0]; exact run_firstCells_none w _ _ _ _
        | some b => exact run_firstCells_some w sz x.len b x.len x.cap ds hxl (fun j v hv => hx.cells b hxa j v hv)
      have hst := run_storeRow (P := P) g (s.len * sz) e' fz ds 0 cur w hg hfz (by simpa using hfit) h1
      simp only [Nat.add_zero] at hst
      refine ⟨Lf.enc .slc ⟨s.a, s.len + x.len, s.cap⟩, w.setRow g (cur.toList.take (s.len * sz) ++ ds ++ cur.toList.drop (s.len * sz + ds.length)).toArray, ?_, one_dec (l := .slc) (hK ⟨s.a, s.len + x.len, s.cap⟩ _ ?_ ?_ rfl (fun k hk => .inl hk))⟩
      · simp [Builtin.append_, run_underlying h.und, sizeOf, typeInfo, hi1, hi2, Builtin.lenOf, hroom, hfc, ha, Addr.add_lit, hst, Lf.enc]
      · exact (fr_setRow w g _).mono fun k _ hk => ⟨_, ha, hk.symm⟩
      · refine ⟨hlen', hroom, .inr ⟨g, _, e', fz, ha, hBg, setRow_heap w g cur _ e' fz hg, ?_, ?_, ?_⟩⟩
        · intro j hj
          refine hfz j ?_
          simp at hj
          omega
        · simp; omega
        · show List.take ((s.len + x.len) * sz) _ = _
          rw [htk, ← hlen']
          exact List.take_left
  · -- it grows
    have hxpos : 0 < x.len := by have := ho.cap; omega
    obtain ⟨b, hxa⟩ := hx.some hxpos
    have h63 : ((s.len + x.len : Nat) : Int) ≤ 9223372036854775807 := by omega
    have hcm : ∀ G, G = grownCap w (s.len + x.len) s.cap e → s.len + x.len ≤ G ∧ G ≤ maxLen := fun G hG => by
      subst hG
      exact ⟨grownCap_ge w _ _ e, grownCap_le_maxLen w _ _ e (by unfold maxLen; omega)⟩
    rcases ho.row with ⟨ha, h0, hc0⟩ | ⟨g, cur, e', fz, ha, hBg, hg, hfz, hcs, htk⟩
    · have hc : cs = [] := List.eq_nil_of_length_eq_zero (by rw [hol, h0]; simp)
      have hr := run_append_nil (P := P) w t ty e i z h.und hi1 hi3 b x.len x.cap ds (by rw [hi2]; exact hxl) (fun j v hv => hx.cells b hxa j v hv) hxpos (by omega) (by rw [h0] at hbytes; simp at hbytes; omega)
      have hgr := grown 0 (by omega) (grownCap w (s.len + x.len) s.cap e) (hcm _ rfl).1 (hcm _ rfl).2
      refine ⟨Lf.enc .slc ⟨some ⟨w.heap.size, 0, none⟩, s.len + x.len, grownCap w (s.len + x.len) s.cap e⟩, _, ?_, one_dec (l := .slc) (hK ⟨some ⟨w.heap.size, 0, none⟩, s.len + x.len, grownCap w (s.len + x.len) s.cap e⟩ _ (hgfr _) hgr rfl (fun k hk => .inr ?_))⟩
      · rw [ha, h0, hc0, hxa, hr]
        simp [Lf.enc, hc]
      · obtain ⟨a, ha', rfl⟩ := hk; cases ha'; exact Nat.le_refl _
    · have hr := run_append_grow (P := P) w t ty e i z h.und hi1 hi3 ⟨g, 0, none⟩ s.len s.cap cs (by rw [hi2]; exact hol) (fun j v hv => ho.rd.cells _ ha j v hv) b x.len x.cap ds (by rw [hi2]; exact hxl) (fun j v hv => hx.cells b hxa j v hv) (by omega) h63 (growslice_fits (by omega) hbytes)
      have hgr := grown s.cap (by omega) (grownCap w (s.len + x.len) s.cap e) (hcm _ rfl).1 (hcm _ rfl).2
      refine ⟨Lf.enc .slc ⟨some ⟨w.heap.size, 0, none⟩, s.len + x.len, grownCap w (s.len + x.len) s.cap e⟩, _, ?_, one_dec (l := .slc) (hK ⟨some ⟨w.heap.size, 0, none⟩, s.len + x.len, grownCap w (s.len + x.len) s.cap e⟩ _ (hgfr _) hgr rfl (fun k hk => .inr ?_))⟩
      · rw [ha, hxa, hr]
        rfl
      · obtain ⟨a, ha', rfl⟩ := hk; cases ha'; exact Nat.le_refl _

theorem vB_one (b : UInt8) : (vB b).oneCell' = true := rfl
theorem bytes_one {bs : List UInt8} : ∀ v ∈ bs.map vB, v.oneCell' = true := fun v hv => by
  obtain ⟨b, _, rfl⟩ := List.mem_map.1 hv; rfl
theorem appendB_i {t ty e : Nat} {z : Value} [SliceTy P t e 1 z] {s x : Sl} {as bs : List UInt8} {B : Nat} {K : Sl → World → Prop} (ho : OwnB w B s as) (hx : Bts w x bs)
    (hlen : as.length + bs.length ≤ 68719476736) (hB : B ≤ w.heap.size) (hK : ∀ v w', Fr s.inB w w' → OwnB w' B v (as ++ bs) → (∀ k, v.inB k → s.inB k ∨ w.heap.size ≤ k) → K v w') :
    semS P (Builtin.append_ #[t, t] ty #[.slice s.a s.len s.cap, .slice x.a x.len x.cap]) (.one .slc) K w :=
  append_i ho hx bytes_one (by rw [OwnB.len ho, Bts.len hx]; exact hlen) hB fun v w' h1 h2 h3 h4 => hK v w' h1 (by unfold OwnB; rw [List.map_append]; exact h2) h4
/-! ### a store into a row of one's own -/
theorem Own.set {B : Nat} {s : Sl} {cs : List Value} {a : Addr} {i : Nat} (ho : Own w B s 1 cs) (ha : s.a = some a) (hi : i < s.len) (u : Value) :
    (∃ v, w.cell? (a.add i) = some v) ∧ w.frozen? (a.add i) = false ∧ Fr s.inB w (w.setCell (a.add i) u) ∧ Own (w.setCell (a.add i) u) B s 1 (cs.set i u) := by
  rcases ho.row with ⟨h0, _⟩ | ⟨g, cur, e, fz, hg, hB, hh, hfz, hcs, htk⟩
  · rw [h0] at ha; cases ha
  · rw [hg] at ha
    cases ha
    have hc := ho.cap
    have hl := ho.len
    rw [Nat.mul_one] at hcs htk hl
    have hadd : (⟨g, 0, none⟩ : Addr).add i = ⟨g, i, none⟩ := by unfold Addr.add; split <;> simp_all
    have hi' : i < cur.size := by omega
    rw [hadd]
    refine ⟨⟨cur[i], by simp [World.cell?, hh, hi']⟩, ?_, ?_, ?_⟩
    · have := hfz i hi'
      simp only [World.frozen?, hh]
      rw [Bool.eq_false_iff]
      intro hx
      simp only [Bool.and_eq_true, decide_eq_true_eq] at hx
      exact this hx
    · rw [setCell_eq_setRow w g i cur e fz u hh]
      exact (fr_setRow w g _).mono fun k _ hk => ⟨_, hg, hk.symm⟩
    · rw [setCell_eq_setRow w g i cur e fz u hh]
      refine ⟨by simpa using ho.len, ho.cap, .inr ⟨g, _, e, fz, hg, hB, setRow_heap w g cur _ e fz hh, by simpa using hfz, by simpa using hcs, ?_⟩⟩
      rw [Nat.mul_one, Array.toList_setIfInBounds, ← htk, List.take_set]
/-- 's[i] = u', an element of one cell. -/
theorem set_i {t e : Nat} {z : Value} [SliceTy P t e 1 z] [LeafTy P e] {s : Sl} {cs : List Value} {B : Nat} {i : Int} {u : Value} {K : World → Prop} (ho : Own w B s 1 cs) (h0 : 0 ≤ i) (h1 : i < s.len) (hu : u.oneCell' = true)
    (hK : ∀ w', Fr s.inB w w' → Own w' B s 1 (cs.set i.toNat u) → K w') :
    semS P (Instr.indexAt t (.slice s.a s.len s.cap) (.int .i64 i)) (.one .adr) (fun a w => semU P (Instr.storeAt e (.pointer (some a)) u) K w) w := by
  obtain ⟨a, ha⟩ := ho.rd.some (by omega)
  obtain ⟨⟨v, hv⟩, hf, fr, o'⟩ := ho.set ha (i := i.toNat) (by omega) u
  refine ix_i ha h0 h1 ?_
  rw [Nat.mul_one]
  exact st_i hv hf hu (hK _ fr o')
theorem put1_i {t e : Nat} {z : Value} [SliceTy P t e 1 z] [LeafTy P e] {s : Sl} {xs : List UInt8} {B : Nat} {i n : Int} {K : World → Prop} (b : UInt8) (ho : OwnB w B s xs) (h0 : 0 ≤ i) (h1 : i < s.len) (hn : n = (b.toNat : Int))
    (hK : ∀ w', Fr s.inB w w' → OwnB w' B s (xs.set i.toNat b) → K w') :
    semS P (Instr.indexAt t (.slice s.a s.len s.cap) (.int .i64 i)) (.one .adr) (fun a w => semU P (Instr.storeAt e (.pointer (some a)) (.int .u8 n)) K w) w := by
  subst hn
  refine set_i ho h0 h1 rfl fun w' h1 h2 => hK w' h1 ?_
  unfold OwnB
  rw [List.map_set]; exact h2
/-- '[]byte("..")' of a constant. -/
theorem bytesConst_i {t e : Nat} {z : Value} [h : SliceTy P t e 1 z] [he : ByteTy P e] {n : Nat} {parts : Array (Nat × Value)} (bs : List UInt8) {K : Sl → World → Prop}
    (hf : Instr.fill (fun i => some (i * 1, 1)) ((Array.range (n * 1)).map (fun i => (if n * 1 = 0 then #[] else z.cells)[i % (if n * 1 = 0 then #[] else z.cells).size]!)) parts.toList = some (bs.map vB).toArray)
    (hc : bs.length = n) (hle : n ≤ 16777216) (hK : ∀ v w', Ext w w' → OwnB w' w.heap.size v bs → K v w') :
    semS P (Instr.buildSlice t n parts) (.one .slc) (fun x w => semS P (convert t t (.slice x.a x.len x.cap)) (.one .slc) K w) w := by
  obtain ⟨i, h1, h2, h3, h4, h5, h6⟩ := h.info
  refine ⟨Lf.enc .slc ⟨some ⟨w.heap.size, 0, none⟩, n, n⟩, w.alloc (.cells (bs.map vB).toArray e), ?_, one_dec (l := .slc) ?_⟩
  · have hle'' : ¬ (16777216 < n * 1) := by omega
    by_cases h0 : n * 1 = 0
    · simp only [h0, if_true] at hf
      simp [Instr.buildSlice, run_underlying h.und, sizeOf_elem (t := t) (sz := 1), h0, zeroValue, typeInfo, h1, h3, newRow, Lf.enc] at hf ⊢
      have h00 : n = 0 := by omega
      subst h00
      simp [hf]
    · simp only [h0, if_false] at hf
      have h00 : ¬ n = 0 := by omega
      simp [Instr.buildSlice, run_underlying h.und, sizeOf_elem (t := t) (sz := 1), hle'', h0, h00, zeroValue, typeInfo, h1, h3, newRow, Lf.enc] at hf ⊢
      have hle3 : ¬ (16777216 < n) := by omega
      simp [hf, hle3]
  · refine ⟨_, _, Lib.run_convert_bytes_const w t e _ n n h.und he.und, ?_⟩
    refine hK ⟨some ⟨w.heap.size, 0, none⟩, n, n⟩ _ (Ext.alloc _ _) ⟨by simp [hc], Nat.le_refl _, .inr ⟨w.heap.size, _, e, _, rfl, Nat.le_refl _, heap_alloc_new w _, fun i hi h => ?_, by simp [hc], ?_⟩⟩
    · have := h.1; omega
    · rw [Nat.mul_one]; exact List.take_of_length_le (by simp [hc])
/-! ### 'append(s, make([]T, n)...)' -/
theorem zeroCells_one (v : Value) (n : Nat) : (Builtin.zeroCells #[v] n).toList = List.replicate n v := by
  apply List.ext_getElem
  · simp [Builtin.zeroCells]
  · intro i h1 h2; simp [Builtin.zeroCells, Nat.mod_one]
theorem appendZ_i {t ti ty e sz : Nat} {z : Value} [h : SliceTy P t e sz z] [hti : IntTy P ti] {s : Sl} {cs : List Value} {B : Nat} {K : Sl → World → Prop} {n : Int} (ho : Own w B s sz cs) (hn0 : 0 ≤ n)
    (h1 : ∀ v ∈ (Builtin.zeroCells z.cells n.toNat).toList, v.oneCell' = true) (hlen : s.len + n ≤ 68719476736) (hB : B ≤ w.heap.size)
    (hK : ∀ v w', Fr s.inB w w' → Own w' B v sz (cs ++ (Builtin.zeroCells z.cells n.toNat).toList) → v.len = s.len + n.toNat → (∀ k, v.inB k → s.inB k ∨ w.heap.size ≤ k) → K v w') :
    semS P (Builtin.append_ #[t, ti] ty #[.slice s.a s.len s.cap, .int .i64 n]) (.one .slc) K w := by
  obtain ⟨i, hi1, hi2, hi3, hi4, hi5, hi6⟩ := h.info
  obtain ⟨m, rfl⟩ : ∃ m : Nat, n = m := ⟨n.toNat, by omega⟩
  simp only [Int.toNat_natCast] at *
  obtain ⟨kt, hkt⟩ : ∃ kt, P.underlying ti = some (.int kt) := by
    have := hti.und
    split at this
    · rename_i k hk; exact ⟨k, hk⟩
    · cases this
  have hw : IntKind.i64.wrap (m : Int) = m := by rw [IntKind.wrap_i64]; omega
  have hw0 : IntKind.i64.wrap 0 = 0 := by rw [IntKind.wrap_i64]; rfl
  have hneg : ¬ ((m : Int) < 0) := by omega
  have hol := ho.len
  have hbytes : (s.len + m) * i.bytes ≤ 140737488355328 := by
    have : (s.len + m) * i.bytes ≤ 68719476736 * 2048 := Nat.mul_le_mul (by omega) hi4
    omega
  have hmb : m * i.bytes ≤ 140737488355328 := Nat.le_trans (Nat.mul_le_mul_right _ (Nat.le_add_left m s.len)) hbytes
  have hbig : ¬ (281474976710656 < (m : Int) * (i.bytes : Int)) := by rw [← Int.natCast_mul]; omega
  have hsn : i.size ≠ 0 := by omega
  obtain ⟨ds, hds⟩ : ∃ ds, ds = (Builtin.zeroCells z.cells m).toList := ⟨_, rfl⟩
  rw [← hds] at h1 hK
  have hxl : ds.length = m * sz := by rw [hds, Array.length_toList, size_zeroCells, hi5]
  have hna : Builtin.zeroCells z.cells m = ds.toArray := by rw [hds]
  have hlen' : (cs ++ ds).length = (s.len + m) * sz := by rw [List.length_append, hol, hxl, Nat.add_mul]
  have hnil : m = 0 → ds = [] := fun h => List.eq_nil_of_length_eq_zero (by rw [hxl, h, Nat.zero_mul])
  have grown : ∀ (G : Nat), s.len + m ≤ G → G ≤ maxLen →
      Own (w.drew.alloc (.cells (cs.toArray ++ ds.toArray ++ Builtin.zeroCells z.cells (G - (s.len + m))) e)) B ⟨some ⟨w.heap.size, 0, none⟩, s.len + m, G⟩ sz (cs ++ ds) := by
    intro G hG hG'
    have hs : (cs.toArray ++ ds.toArray ++ Builtin.zeroCells z.cells (G - (s.len + m))).size = G * sz := by
      simp only [Array.size_append, List.size_toArray, size_zeroCells, hi5, hol, hxl, ← Nat.add_mul]
      congr 1; omega
    have := Own.fresh (w := w.drew) (cells := cs.toArray ++ ds.toArray ++ Builtin.zeroCells z.cells (G - (s.len + m))) (e := e) (n := s.len + m) (c := G) (sz := sz) (B := B) (fz := (0, 0)) hB hs hG fz0
    have ht : (cs.toArray ++ ds.toArray ++ Builtin.zeroCells z.cells (G - (s.len + m))).toList.take ((s.len + m) * sz) = cs ++ ds := by
      simp only [Array.toList_append, List.append_assoc]
      rw [← List.append_assoc, ← hlen']
      exact List.take_left
    rwa [ht] at this
  have hgfr : ∀ o, Fr s.inB w (w.drew.alloc o) := fun o => (Ext.trans (Ext.drew w) (Ext.alloc _ _)).fr
  by_cases hroom : s.len + m ≤ s.cap
  · rcases ho.row with ⟨ha, h0, hc0⟩ | ⟨g, cur, e', fz, ha, hBg, hg, hfz, hcs, htk⟩
    · have hm0 : m = 0 := by omega
      have hc : cs = [] := List.eq_nil_of_length_eq_zero (by rw [hol, h0]; simp)
      refine ⟨.slice none 0 0, w, ?_, one_dec (l := .slc) (x := Sl.nil) (hK _ w (Fr.refl _ _) ?_ (by simp [h0, hm0]) (fun k hk => by obtain ⟨a, ha, _⟩ := hk; cases ha))⟩
      · rw [ha, h0, hc0, hm0]
        simp [Builtin.append_, run_underlying h.und, run_underlying hkt, sizeOf, typeInfo, hi1, asInt, asIntOf, hw0]
      · rw [hc, hnil hm0]; exact Own.nilSl _ _ _
    · have hfit : s.len * sz + ds.length ≤ cur.size := by rw [hxl, hcs, ← Nat.add_mul]; exact Nat.mul_le_mul_right _ hroom
      have hst := run_storeRow (P := P) g (s.len * sz) e' fz ds 0 cur w hg hfz (by simpa using hfit) h1
      simp only [Nat.add_zero] at hst
      refine ⟨Lf.enc .slc ⟨s.a, s.len + m, s.cap⟩, w.setRow g (cur.toList.take (s.len * sz) ++ ds ++ cur.toList.drop (s.len * sz + ds.length)).toArray, ?_, one_dec (l := .slc) (hK ⟨s.a, s.len + m, s.cap⟩ _ ?_ ?_ rfl (fun k hk => .inl hk))⟩
      · by_cases hm0 : m = 0
        · have hd := hnil hm0
          subst hm0
          have hcap := ho.cap
          have hrow : (cur.toList.take (s.len * sz) ++ ds ++ cur.toList.drop (s.len * sz + ds.length)).toArray = cur := by rw [hd]; simp
          rw [hrow, setRow_self w g cur e' fz hg]
          simp [Builtin.append_, run_underlying h.und, run_underlying hkt, sizeOf, typeInfo, hi1, hi2, hi3, asInt, asIntOf, hw0, hcap, ha, Addr.add_lit, storeCells, Lf.enc]
        · simp [Builtin.append_, run_underlying h.und, run_underlying hkt, sizeOf, typeInfo, hi1, hi2, hi3, asInt, asIntOf, hw, hneg, hbig, hroom, ha, Addr.add_lit, zeroValue, Nat.mul_ne_zero hm0 (show sz ≠ 0 by omega), hna, hst, Lf.enc]
      · exact (fr_setRow w g _).mono fun k _ hk => ⟨_, ha, hk.symm⟩
      · refine ⟨hlen', hroom, .inr ⟨g, _, e', fz, ha, hBg, setRow_heap w g cur _ e' fz hg, ?_, ?_, ?_⟩⟩
        · intro j hj
          refine hfz j ?_
          simp at hj
          omega
        · simp; omega
        · show List.take ((s.len + m) * sz) _ = _
          rw [htk, ← hlen']
          exact List.take_left
  · have hm0 : m ≠ 0 := by have := ho.cap; omega
    have h63 : ¬ (9223372036854775807 < ((s.len : Int) + (m : Int))) := by omega
    have h48 : ¬ (281474976710656 < Builtin.nextslicecap (s.len + m) s.cap * i.bytes) := Nat.not_lt.2 (growslice_fits (by omega) hbytes)
    have hg := grown (grownCap w (s.len + m) s.cap e) (grownCap_ge w _ _ e) (grownCap_le_maxLen w _ _ e (by unfold maxLen; omega))
    refine ⟨Lf.enc .slc ⟨some ⟨w.heap.size, 0, none⟩, s.len + m, grownCap w (s.len + m) s.cap e⟩, _, ?_, one_dec (l := .slc) (hK ⟨some ⟨w.heap.size, 0, none⟩, s.len + m, grownCap w (s.len + m) s.cap e⟩ _ (hgfr _) hg rfl (fun k hk => .inr ?_))⟩
    · have hfo : (Builtin.firstCells sz s.len (.slice s.a s.len s.cap)).run P w.drew = .ok cs.toArray w.drew := by
        cases hsa : s.a with
        | none =>
          have := (ho.rd.nil hsa).1
          have hd0 : cs = [] := List.eq_nil_of_length_eq_zero (by rw [hol, this]; simp)
          rw [hd0]; exact run_firstCells_none w.drew _ _ _ _
        | some b => exact run_firstCells_some w.drew sz s.len b s.len s.cap cs hol (fun j v hv => ho.rd.cells b hsa j v hv)
      simp [Builtin.append_, run_underlying h.und, run_underlying hkt, sizeOf, typeInfo, hi1, hi2, hi3, asInt, asIntOf, hw, hneg, hbig, hroom, h63, h48, hfo, zeroValue, Nat.mul_ne_zero hm0 (show sz ≠ 0 by omega), hna, newRow, Lf.enc, show (Question.appendCap (s.len + m) s.cap e).forced = false by rfl]
      have hgc : (Question.appendCap (s.len + m) s.cap e).cut (w.tape w.drawn (Question.appendCap (s.len + m) s.cap e)) = grownCap w (s.len + m) s.cap e := rfl
      exact ⟨hgc, by rw [hgc, ← List.append_toArray, Array.append_assoc]⟩
    · obtain ⟨a, ha', rfl⟩ := hk; cases ha'; exact Nat.le_refl _
end
end Go.Eng
