/- The library of the second stage: what the single computations of the model do, over worlds of which only the needed is known. -/
import Derived.Test.YteopoodhclljjaaGreatDoorEng4
import Derived.Laws.Append
import Derived.Laws.AppendOwn
import Derived.Laws.CopyRow
import Derived.Laws.IdiomStrings
import Derived.Laws.MakeOwn
import Derived.Lib.SliceRun
import Derived.Laws.Strings
set_option linter.unusedSimpArgs false
set_option linter.unusedVariables false
namespace Go.Eng
open Go

/-! ### worlds -/
/-- From w to w' nothing that lay in w has turned, but the blocks in S. -/
structure Fr (S : Nat → Prop) (w w' : World) : Prop where
  os : w'.os = w.os
  tape : w'.tape = w.tape
  output : w'.output = w.output
  size : w.heap.size ≤ w'.heap.size
  block : ∀ k, k < w.heap.size → ¬ S k → w'.heap[k]? = w.heap[k]?
abbrev Ext (w w' : World) : Prop := Fr (fun _ => False) w w'
theorem Fr.refl (S : Nat → Prop) (w : World) : Fr S w w := ⟨rfl, rfl, rfl, Nat.le_refl _, fun _ _ _ => rfl⟩
theorem Fr.trans {S T : Nat → Prop} {a b c : World} (h : Fr S a b) (k : Fr T b c) (hT : ∀ i, i < a.heap.size → T i → S i) : Fr S a c :=
  ⟨k.os.trans h.os, k.tape.trans h.tape, k.output.trans h.output, Nat.le_trans h.size k.size, fun i hi hs => (k.block i (Nat.lt_of_lt_of_le hi h.size) (fun ht => hs (hT i hi ht))).trans (h.block i hi hs)⟩
theorem Fr.trans' {S : Nat → Prop} {a b c : World} (h : Fr S a b) (k : Fr S b c) : Fr S a c := h.trans k fun _ _ h => h
theorem Fr.then {S : Nat → Prop} {a b c : World} (h : Fr S a b) (k : Ext b c) : Fr S a c := h.trans k fun _ _ h => h.elim
theorem Ext.trans {a b c : World} (h : Ext a b) (k : Ext b c) : Ext a c := Fr.trans' h k
theorem Ext.fr {S : Nat → Prop} {a b : World} (h : Ext a b) : Fr S a b := ⟨h.os, h.tape, h.output, h.size, fun k hk _ => h.block k hk id⟩
/-- Blocks of one's own may turn. -/
theorem Ext.own {S : Nat → Prop} {a b c : World} (h : Ext a b) (k : Fr S b c) (hS : ∀ i, S i → a.heap.size ≤ i) : Ext a c := Fr.trans h k fun i hi hs => absurd (hS i hs) (by omega)
theorem Fr.own1 {g : Nat} {a b c : World} (h : Ext a b) (k : Fr (fun k => k = g) b c) (hg : a.heap.size ≤ g) : Ext a c := Ext.own h k fun i hi => by rw [hi]; exact hg
theorem Fr.mono {S T : Nat → Prop} {a b : World} (h : Fr S a b) (hST : ∀ i, i < a.heap.size → S i → T i) : Fr T a b := ⟨h.os, h.tape, h.output, h.size, fun k hk ht => h.block k hk fun hs => ht (hST k hk hs)⟩
theorem Ext.drew (w : World) : Ext w w.drew := ⟨rfl, rfl, rfl, Nat.le_refl _, fun _ _ _ => rfl⟩
theorem Ext.alloc (w : World) (o : Obj) : Ext w (w.alloc o) := ⟨rfl, rfl, rfl, by simp, fun k hk _ => heap_alloc_old w o k hk⟩
theorem Ext.below {w w' : World} (h : Ext w w') : RowKit.Below w.heap.size w w' := ⟨h.os, h.tape, h.output, h.size, fun k hk => h.block k hk id⟩
theorem Ext.of_below {w w' : World} (h : RowKit.Below w.heap.size w w') : Ext w w' := ⟨h.os, h.tape, h.output, h.size, fun k hk _ => h.block k hk⟩
theorem Fr.cell {S : Nat → Prop} {w w' : World} (h : Fr S w w') {a : Addr} {v : Value} (hc : w.cell? a = some v) (hs : ¬ S a.block) : w'.cell? a = some v :=
  (World.cell?_of_block (w := w) (h.block a.block (World.block_lt_of_cell? w a hc) hs)).trans hc
theorem Fr.heapAt {S : Nat → Prop} {w w' : World} (h : Fr S w w') {k : Nat} {o : Obj} (hk : w.heap[k]? = some o) (hs : ¬ S k) : w'.heap[k]? = some o :=
  (h.block k (Array.getElem?_eq_some_iff.1 hk).1 hs).trans hk

/-! ### what a slice reads as -/
def Sl.nil : Sl := ⟨none, 0, 0⟩
@[simp] theorem Sl.nil_len : Sl.nil.len = 0 := rfl
@[simp] theorem Sl.nil_a : Sl.nil.a = none := rfl
/-- The slice's elements, 'sz' cells each, are the cells cs. -/
structure Rd (w : World) (s : Sl) (sz : Nat) (cs : List Value) : Prop where
  len : cs.length = s.len * sz
  cap : s.len ≤ s.cap
  nil : s.a = none → s.len = 0 ∧ s.cap = 0
  cells : ∀ a, s.a = some a → ∀ i v, cs[i]? = some v → w.cell? (a.add i) = some v
def vB (b : UInt8) : Value := .int .u8 b.toNat
/-- Bytes. -/
abbrev Bts (w : World) (s : Sl) (bs : List UInt8) : Prop := Rd w s 1 (bs.map vB)
theorem Bts.len {w : World} {s : Sl} {bs : List UInt8} (h : Bts w s bs) : s.len = bs.length := by have := Rd.len h; simp at this; omega
@[simp] theorem add_block (a : Addr) (i : Nat) : (a.add i).block = a.block := by unfold Addr.add; split <;> rfl
theorem Rd.fr {S : Nat → Prop} {w w' : World} {s : Sl} {sz : Nat} {cs : List Value} (h : Rd w s sz cs) (hf : Fr S w w') (hs : ∀ a, s.a = some a → ¬ S a.block) : Rd w' s sz cs :=
  ⟨h.len, h.cap, h.nil, fun a ha i v hv => hf.cell (h.cells a ha i v hv) (by rw [add_block]; exact hs a ha)⟩
theorem Rd.ext {w w' : World} {s : Sl} {sz : Nat} {cs : List Value} (h : Rd w s sz cs) (hf : Ext w w') : Rd w' s sz cs := h.fr hf fun _ _ h => h.elim
theorem Rd.nilSl (w : World) (sz : Nat) : Rd w Sl.nil sz [] := ⟨by simp [Sl.nil], Nat.le_refl _, fun _ => ⟨rfl, rfl⟩, fun a h => by cases h⟩

/-- A row of one's own, from block B on, that begins at the row's head; its cells may be written. -/
structure Own (w : World) (B : Nat) (s : Sl) (sz : Nat) (cs : List Value) : Prop where
  len : cs.length = s.len * sz
  cap : s.len ≤ s.cap
  row : (s.a = none ∧ s.len = 0 ∧ s.cap = 0) ∨ ∃ g cur e fz, s.a = some ⟨g, 0, none⟩ ∧ B ≤ g ∧ w.heap[g]? = some (.cells cur e fz) ∧ (∀ i, i < cur.size → ¬ (fz.1 ≤ i ∧ i < fz.2)) ∧ cur.size = s.cap * sz ∧ cur.toList.take (s.len * sz) = cs
abbrev OwnB (w : World) (B : Nat) (s : Sl) (bs : List UInt8) : Prop := Own w B s 1 (bs.map vB)
theorem OwnB.len {w : World} {B : Nat} {s : Sl} {bs : List UInt8} (h : OwnB w B s bs) : s.len = bs.length := by have := Own.len h; simp at this; omega
theorem Own.nilSl (w : World) (B sz : Nat) : Own w B Sl.nil sz [] := ⟨by simp [Sl.nil], Nat.le_refl _, .inl ⟨rfl, rfl, rfl⟩⟩
theorem Own.rd {w : World} {B : Nat} {s : Sl} {sz : Nat} {cs : List Value} (h : Own w B s sz cs) : Rd w s sz cs := by
  refine ⟨h.len, h.cap, fun ha => ?_, fun a ha i v hv => ?_⟩
  · rcases h.row with ⟨_, h1, h2⟩ | ⟨g, cur, e, fz, hg, _⟩
    · exact ⟨h1, h2⟩
    · rw [hg] at ha; cases ha
  · rcases h.row with ⟨h0, _⟩ | ⟨g, cur, e, fz, hg, _, hh, _, _, ht⟩
    · rw [h0] at ha; cases ha
    · rw [hg] at ha; cases ha
      have hadd : (⟨g, 0, none⟩ : Addr).add i = ⟨g, i, none⟩ := by unfold Addr.add; split <;> simp_all
      rw [hadd, cell_of_row w g i cur e fz hh]
      rw [← ht, List.getElem?_take] at hv
      split at hv
      · simpa using hv
      · cases hv
theorem Own.base {w : World} {B B' : Nat} {s : Sl} {sz : Nat} {cs : List Value} (h : Own w B s sz cs) (hB : B' ≤ B) : Own w B' s sz cs :=
  ⟨h.len, h.cap, h.row.imp id fun ⟨g, cur, e, fz, h1, h2, h3⟩ => ⟨g, cur, e, fz, h1, Nat.le_trans hB h2, h3⟩⟩
theorem Own.fr {S : Nat → Prop} {w w' : World} {B : Nat} {s : Sl} {sz : Nat} {cs : List Value} (h : Own w B s sz cs) (hf : Fr S w w') (hs : ∀ a, s.a = some a → ¬ S a.block) : Own w' B s sz cs :=
  ⟨h.len, h.cap, h.row.imp id fun ⟨g, cur, e, fz, h1, h2, h3, h4⟩ => ⟨g, cur, e, fz, h1, h2, hf.heapAt h3 (hs _ h1), h4⟩⟩
theorem Own.ext {w w' : World} {B : Nat} {s : Sl} {sz : Nat} {cs : List Value} (h : Own w B s sz cs) (hf : Ext w w') : Own w' B s sz cs := h.fr hf fun _ _ h => h.elim
theorem Own.lt {w : World} {B : Nat} {s : Sl} {sz : Nat} {cs : List Value} (h : Own w B s sz cs) {a : Addr} (ha : s.a = some a) : B ≤ a.block ∧ a.block < w.heap.size := by
  rcases h.row with ⟨h0, _⟩ | ⟨g, cur, e, fz, hg, hB, hh, _⟩
  · rw [h0] at ha; cases ha
  · rw [hg] at ha; cases ha
    exact ⟨hB, (Array.getElem?_eq_some_iff.1 hh).1⟩
def Sl.inB (s : Sl) (k : Nat) : Prop := ∃ a, s.a = some a ∧ a.block = k
theorem Own.inB {w : World} {B : Nat} {s : Sl} {sz : Nat} {cs : List Value} (h : Own w B s sz cs) {k : Nat} (hk : s.inB k) : B ≤ k ∧ k < w.heap.size := by
  obtain ⟨a, ha, rfl⟩ := hk; exact h.lt ha
/-- Two rows of which one was laid when the other was there. -/
theorem Own.apart {w : World} {B B' : Nat} {s t : Sl} {sz sz' : Nat} {cs cs' : List Value} (h : Own w B s sz cs) (h' : ∀ k, t.inB k → k < B) : ∀ a, t.a = some a → ¬ s.inB a.block :=
  fun a ha hk => by have := (h.inB hk).1; have := h' a.block ⟨a, ha, rfl⟩; omega

/-! ### facts on types -/
class SliceTy (P : Program) (t : TypeId) (e : outParam TypeId) (sz : outParam Nat) (z : outParam Value) : Prop where
  und : P.underlying t = some (.slice e)
  info : ∃ i, P.info? e = some i ∧ i.size = sz ∧ i.zero = some z ∧ i.bytes ≤ 2048 ∧ z.cells.size = sz ∧ 0 < sz
theorem SliceTy.of {P : Program} {t e sz : Nat} {z : Value} (b : Nat) (h1 : P.underlying t = some (.slice e)) (h2 : (P.info? e).map (fun i => (i.size, i.zero, i.bytes)) = some (sz, some z, b)) (h3 : Nat.ble b 2048 = true) (h4 : z.cells.size = sz) (h5 : Nat.blt 0 sz = true) : SliceTy P t e sz z := by
  refine ⟨h1, ?_⟩
  cases hi : P.info? e with
  | none => simp [hi] at h2
  | some i =>
    simp [hi] at h2
    obtain ⟨rfl, hz, rfl⟩ := h2
    exact ⟨i, rfl, rfl, hz, Nat.le_of_ble_eq_true h3, h4, by rw [Nat.blt_eq] at h5; exact h5⟩
class LeafTy (P : Program) (t : TypeId) : Prop where
  leaf : (match P.underlying t with | some (.struct _) => false | some (.array _ _) => false | some _ => true | none => false) = true
  size : (P.info? t).map (·.size) = some 1
class ByteTy (P : Program) (e : TypeId) : Prop where
  und : P.underlying e = some (.int .u8)
class StrTy (P : Program) (t : TypeId) : Prop where
  und : P.underlying t = some .string
class IntTy (P : Program) (t : TypeId) : Prop where
  und : (match P.underlying t with | some (.int _) => true | _ => false) = true

section
variable {P : Program} {w : World}
theorem isAgg_leaf (t : TypeId) [h : LeafTy P t] : (isAgg t).run P w = .ok false w := by
  have := h.leaf
  cases hu : P.underlying t with
  | none => simp [hu] at this
  | some d =>
    have hr := run_underlying (w := w) hu
    cases d <;> simp [hu] at this <;> simp [isAgg, hr]
theorem sizeOf_leaf (t : TypeId) [h : LeafTy P t] : (sizeOf t).run P w = .ok 1 w := by
  have := h.size
  cases hi : P.info? t with
  | none => simp [hi] at this
  | some i => simp [hi] at this; simp [sizeOf, typeInfo, hi, this]
theorem sizeOf_elem {t e sz : Nat} {z : Value} [h : SliceTy P t e sz z] : (sizeOf e).run P w = .ok sz w := by
  obtain ⟨i, h1, h2, _⟩ := h.info
  simp [sizeOf, typeInfo, h1, h2]

/-! ### loads and stores -/
theorem loadVar_leaf (t : TypeId) [LeafTy P t] {a : Addr} {v : Value} (h : w.cell? a = some v) : (loadVar t a).run P w = .ok v w := by
  simp [loadVar, isAgg_leaf, h]
theorem ld_i {t : TypeId} [LeafTy P t] {a : Addr} {l : Lf} (x : l.T) {K : l.T → World → Prop} (h : w.cell? a = some (l.enc x)) (hK : K x w) : semS P (Instr.loadAt t (.pointer (some a))) (.one l) K w := by
  refine ⟨l.enc x, w, ?_, Lf.dec_enc hK⟩
  simp [Instr.loadAt, Instr.sureAddr, loadVar_leaf t h]
theorem ldQ_i {t : TypeId} [LeafTy P t] {a : Addr} {l : Lf} (x : l.T) {C : World → Prop} {K : l.T → Prop} (h : ∀ w, C w → w.cell? a = some (l.enc x)) (hK : K x) : semQ P C (Instr.loadAt t (.pointer (some a))) (.one l) K := by
  refine ⟨l.enc x, fun w hw => ?_, Lf.dec_enc (K := K) hK⟩
  simp [Instr.loadAt, Instr.sureAddr, loadVar_leaf t (h w hw)]
theorem run_storeAt_leaf {t : TypeId} [LeafTy P t] {a : Addr} {v u : Value} (h : w.cell? a = some u) (hf : w.frozen? a = false) (hv : v.oneCell' = true) : (Instr.storeAt t (.pointer (some a)) v).run P w = .ok () (w.setCell a v) := by
  have hc : v.cells = #[v] := by cases v <;> simp [Value.oneCell'] at hv <;> rfl
  have hadd : a.add 0 = a := by simp [Addr.add]
  simp [Instr.storeAt, Instr.sureAddr, storeVar, hc, sizeOf_leaf, storeCells, hadd, run_store P w a v _ hv, h, hf]
theorem st_i {t : TypeId} [LeafTy P t] {a : Addr} {v u : Value} {K : World → Prop} (h : w.cell? a = some u) (hf : w.frozen? a = false) (hv : v.oneCell' = true) (hK : K (w.setCell a v)) : semU P (Instr.storeAt t (.pointer (some a)) v) K w :=
  ⟨_, run_storeAt_leaf h hf hv, hK⟩

theorem one_dec {l : Lf} {x : l.T} {K : l.T → World → Prop} (h : K x w) : (Ty.one l).dec (l.enc x) K (fun r => r w) := Lf.dec_enc (K := fun x => K x w) h
theorem one_decQ {l : Lf} {x : l.T} {K : l.T → Prop} (h : K x) : (Ty.one l).dec (R := Prop) (l.enc x) K (fun r => r) := Lf.dec_enc (K := fun x => K x) h
/-! ### numbers -/
theorem quo_i {t : TypeId} {o1 o2 : Operand} {k : IntKind} {x y : Int} {K : Int → World → Prop} (hy : y ≠ 0) (hK : K (k.wrap (x.tdiv y)) w) : semS P (binS .quo t o1 o2 (.int k x) (.int k y)) (.one (.int k)) K w := by
  refine ⟨.int k (k.wrap (x.tdiv y)), w, ?_, one_dec (l := .int k) hK⟩
  simp [binS, eqGuard, binOp, Op.intDiv, hy]
theorem rem_i {t : TypeId} {o1 o2 : Operand} {k : IntKind} {x y : Int} {K : Int → World → Prop} (hy : y ≠ 0) (hK : K (x.tmod y) w) : semS P (binS .rem t o1 o2 (.int k x) (.int k y)) (.one (.int k)) K w := by
  refine ⟨.int k (x.tmod y), w, ?_, one_dec (l := .int k) hK⟩
  simp [binS, eqGuard, binOp, Op.intDiv, hy]
theorem shr_i {t : TypeId} {o1 o2 : Operand} {k k' : IntKind} {x y : Int} {K : Int → World → Prop} (hy : 0 ≤ y) (hK : K (shrI k x y) w) : semS P (binS .shr t o1 o2 (.int k x) (.int k' y)) (.one (.int k)) K w := by
  refine ⟨.int k (shrI k x y), w, ?_, one_dec (l := .int k) hK⟩
  have : ¬ y < 0 := by omega
  simp [binS, eqGuard, binOp, Op.shift, this, shrI]
theorem shl_i {t : TypeId} {o1 o2 : Operand} {k k' : IntKind} {x y : Int} {K : Int → World → Prop} (hy : 0 ≤ y) (hK : K (shlI k x y) w) : semS P (binS .shl t o1 o2 (.int k x) (.int k' y)) (.one (.int k)) K w := by
  refine ⟨.int k (shlI k x y), w, ?_, one_dec (l := .int k) hK⟩
  have : ¬ y < 0 := by omega
  simp [binS, eqGuard, binOp, Op.shift, this, shlI]
theorem eqNil_i {t e sz : Nat} {z : Value} [h : SliceTy P t e sz z] {o1 o2 : Operand} {s : Sl} {K : Bool → World → Prop} (hK : K s.a.isNone w) : semS P (binS .eql t o1 o2 (.slice s.a s.len s.cap) (.slice none 0 0)) (.one .bool) K w := by
  refine ⟨.bool s.a.isNone, w, ?_, hK⟩
  have := Lib.run_eql_slice_nil w t e s.a s.len s.cap 0 0 h.und
  have hg : ∀ a b c : Option Addr, (eqGuard .eql t o1 o2 (.slice s.a s.len s.cap) (.slice none 0 0)).run P w = .ok () w := fun _ _ _ => by simp [eqGuard]
  simp only [binS, Sem.run_bind, hg none none none, Result.andThen_ok, this]

/-! ### slices -/
def Sl.cut (s : Sl) (sz l h : Nat) : Sl := ⟨if s.cap = l then s.a else s.a.map (·.add (l * sz)), h - l, s.cap - l⟩
theorem run_sliceBound {k : IntKind} {i : Int} {y : Nat} {c : BoundsCode} (h0 : 0 ≤ i) (h1 : i ≤ y) : (Instr.sliceBound (.int k i) y c).run P w = .ok i.toNat w := by
  simp [Instr.sliceBound, asIntOf, h0, h1]
theorem run_sliceAt2 {t e sz : Nat} {z : Value} [h : SliceTy P t e sz z] {s : Sl} {lo hi : Int} (h0 : 0 ≤ lo) (h1 : lo ≤ hi) (h2 : hi ≤ s.cap) :
    (Instr.sliceAt t (.slice s.a s.len s.cap) (some (.int .i64 lo)) (some (.int .i64 hi)) none).run P w = .ok (.slice (s.cut sz lo.toNat hi.toNat).a (s.cut sz lo.toNat hi.toNat).len (s.cut sz lo.toNat hi.toNat).cap) w := by
  have hb1 : (Instr.sliceBound (.int .i64 hi) s.cap .sliceAcap).run P w = .ok hi.toNat w := run_sliceBound (by omega) (by omega)
  have hb2 : (Instr.sliceBound (.int .i64 lo) hi.toNat .sliceB).run P w = .ok lo.toNat w := run_sliceBound (by omega) (by omega)
  simp [Instr.sliceAt, Instr.slice, run_underlying h.und, Instr.sliceBounds, hb1, hb2, sizeOf_elem (t := t) (sz := sz), Sl.cut]
theorem sl2_i {t e sz : Nat} {z : Value} [SliceTy P t e sz z] {s : Sl} {lo hi : Int} {K : Sl → World → Prop} (h0 : 0 ≤ lo) (h1 : lo ≤ hi) (h2 : hi ≤ s.cap) (hK : K (s.cut sz lo.toNat hi.toNat) w) :
    semS P (Instr.sliceAt t (.slice s.a s.len s.cap) (some (.int .i64 lo)) (some (.int .i64 hi)) none) (.one .slc) K w :=
  ⟨_, w, run_sliceAt2 h0 h1 h2, hK⟩
theorem slHi_i {t e sz : Nat} {z : Value} [h : SliceTy P t e sz z] {s : Sl} {hi : Int} {K : Sl → World → Prop} (h1 : 0 ≤ hi) (h2 : hi ≤ s.cap) (hK : K (s.cut sz 0 hi.toNat) w) :
    semS P (Instr.sliceAt t (.slice s.a s.len s.cap) none (some (.int .i64 hi)) none) (.one .slc) K w := by
  refine ⟨Lf.enc .slc (s.cut sz 0 hi.toNat), w, ?_, one_dec (l := .slc) hK⟩
  have hb1 : (Instr.sliceBound (.int .i64 hi) s.cap .sliceAcap).run P w = .ok hi.toNat w := run_sliceBound (by omega) (by omega)
  simp [Instr.sliceAt, Instr.slice, run_underlying h.und, Instr.sliceBounds, hb1, sizeOf_elem (t := t) (sz := sz), Sl.cut, Lf.enc]
theorem slLo_i {t e sz : Nat} {z : Value} [h : SliceTy P t e sz z] {s : Sl} {lo : Int} {K : Sl → World → Prop} (h1 : 0 ≤ lo) (h2 : lo ≤ s.len) (hK : K (s.cut sz lo.toNat s.len) w) :
    semS P (Instr.sliceAt t (.slice s.a s.len s.cap) (some (.int .i64 lo)) none none) (.one .slc) K w := by
  refine ⟨Lf.enc .slc (s.cut sz lo.toNat s.len), w, ?_, one_dec (l := .slc) hK⟩
  have hb1 : (Instr.sliceBound (.int .i64 lo) s.len .sliceB).run P w = .ok lo.toNat w := run_sliceBound (by omega) (by omega)
  simp [Instr.sliceAt, Instr.slice, run_underlying h.und, Instr.sliceBounds, hb1, sizeOf_elem (t := t) (sz := sz), Sl.cut, Lf.enc]
theorem slHiQ_i {t e sz : Nat} {z : Value} [h : SliceTy P t e sz z] {s : Sl} {hi : Int} {C : World → Prop} {K : Sl → Prop} (h1 : 0 ≤ hi) (h2 : hi ≤ s.cap) (hK : K (s.cut sz 0 hi.toNat)) :
    semQ P C (Instr.sliceAt t (.slice s.a s.len s.cap) none (some (.int .i64 hi)) none) (.one .slc) K := by
  refine ⟨Lf.enc .slc (s.cut sz 0 hi.toNat), fun w _ => ?_, one_decQ (l := .slc) hK⟩
  have hb1 : (Instr.sliceBound (.int .i64 hi) s.cap .sliceAcap).run P w = .ok hi.toNat w := run_sliceBound (by omega) (by omega)
  simp [Instr.sliceAt, Instr.slice, run_underlying h.und, Instr.sliceBounds, hb1, sizeOf_elem (t := t) (sz := sz), Sl.cut, Lf.enc]
theorem slLoQ_i {t e sz : Nat} {z : Value} [h : SliceTy P t e sz z] {s : Sl} {lo : Int} {C : World → Prop} {K : Sl → Prop} (h1 : 0 ≤ lo) (h2 : lo ≤ s.len) (hK : K (s.cut sz lo.toNat s.len)) :
    semQ P C (Instr.sliceAt t (.slice s.a s.len s.cap) (some (.int .i64 lo)) none none) (.one .slc) K := by
  refine ⟨Lf.enc .slc (s.cut sz lo.toNat s.len), fun w _ => ?_, one_decQ (l := .slc) hK⟩
  have hb1 : (Instr.sliceBound (.int .i64 lo) s.len .sliceB).run P w = .ok lo.toNat w := run_sliceBound (by omega) (by omega)
  simp [Instr.sliceAt, Instr.slice, run_underlying h.und, Instr.sliceBounds, hb1, sizeOf_elem (t := t) (sz := sz), Sl.cut, Lf.enc]
theorem sl2Q_i {t e sz : Nat} {z : Value} [SliceTy P t e sz z] {s : Sl} {lo hi : Int} {C : World → Prop} {K : Sl → Prop} (h0 : 0 ≤ lo) (h1 : lo ≤ hi) (h2 : hi ≤ s.cap) (hK : K (s.cut sz lo.toNat hi.toNat)) :
    semQ P C (Instr.sliceAt t (.slice s.a s.len s.cap) (some (.int .i64 lo)) (some (.int .i64 hi)) none) (.one .slc) K :=
  ⟨Lf.enc .slc (s.cut sz lo.toNat hi.toNat), fun w _ => run_sliceAt2 h0 h1 h2, one_decQ (l := .slc) hK⟩
theorem remQ_i {t : TypeId} {o1 o2 : Operand} {k : IntKind} {x y : Int} {C : World → Prop} {K : Int → Prop} (hy : y ≠ 0) (hK : K (x.tmod y)) : semQ P C (binS .rem t o1 o2 (.int k x) (.int k y)) (.one (.int k)) K := by
  refine ⟨.int k (x.tmod y), fun w _ => ?_, one_decQ (l := .int k) hK⟩
  simp [binS, eqGuard, binOp, Op.intDiv, hy]
theorem shrQ_i {t : TypeId} {o1 o2 : Operand} {k k' : IntKind} {x y : Int} {C : World → Prop} {K : Int → Prop} (hy : 0 ≤ y) (hK : K (shrI k x y)) : semQ P C (binS .shr t o1 o2 (.int k x) (.int k' y)) (.one (.int k)) K := by
  refine ⟨.int k (shrI k x y), fun w _ => ?_, one_decQ (l := .int k) hK⟩
  have : ¬ y < 0 := by omega
  simp [binS, eqGuard, binOp, Op.shift, this, shrI]
theorem shlQ_i {t : TypeId} {o1 o2 : Operand} {k k' : IntKind} {x y : Int} {C : World → Prop} {K : Int → Prop} (hy : 0 ≤ y) (hK : K (shlI k x y)) : semQ P C (binS .shl t o1 o2 (.int k x) (.int k' y)) (.one (.int k)) K := by
  refine ⟨.int k (shlI k x y), fun w _ => ?_, one_decQ (l := .int k) hK⟩
  have : ¬ y < 0 := by omega
  simp [binS, eqGuard, binOp, Op.shift, this, shlI]
theorem quoQ_i {t : TypeId} {o1 o2 : Operand} {k : IntKind} {x y : Int} {C : World → Prop} {K : Int → Prop} (hy : y ≠ 0) (hK : K (k.wrap (x.tdiv y))) : semQ P C (binS .quo t o1 o2 (.int k x) (.int k y)) (.one (.int k)) K := by
  refine ⟨.int k (k.wrap (x.tdiv y)), fun w _ => ?_, one_decQ (l := .int k) hK⟩
  simp [binS, eqGuard, binOp, Op.intDiv, hy]
theorem add_add (a : Addr) (i j : Nat) (h : a.spot = none) : (a.add i).add j = a.add (i + j) := by
  unfold Addr.add
  by_cases hi : i = 0 <;> by_cases hj : j = 0 <;> simp [hi, hj] <;> omega
theorem Rd.cut {s : Sl} {sz : Nat} {cs : List Value} (h : Rd w s sz cs) {l hi : Nat} (h1 : l ≤ hi) (h2 : hi ≤ s.len) : Rd w (s.cut sz l hi) sz ((cs.drop (l * sz)).take ((hi - l) * sz)) := by
  have hc := h.cap
  refine ⟨?_, ?_, fun ha => ?_, fun a ha i v hv => ?_⟩
  · have : hi * sz ≤ s.len * sz := Nat.mul_le_mul_right _ h2
    have e : (hi - l) * sz = hi * sz - l * sz := Nat.sub_mul _ _ _
    simp only [List.length_take, List.length_drop, h.len, Sl.cut, e]
    omega
  · simp [Sl.cut]; omega
  · have hn : s.a = none := by
      unfold Sl.cut at ha
      simp only at ha
      split at ha
      · exact ha
      · simpa using ha
    obtain ⟨h3, h4⟩ := h.nil hn
    simp [Sl.cut]; omega
  · rw [List.getElem?_take] at hv
    split at hv
    · rename_i hlt
      rw [List.getElem?_drop] at hv
      unfold Sl.cut at ha
      simp only at ha
      split at ha
      · rename_i he
        have : hi - l = 0 := by omega
        simp [this] at hlt
      · cases hs : s.a with
        | none => simp [hs] at ha
        | some b =>
          simp [hs] at ha
          subst ha
          have hcell := h.cells b hs (l * sz + i) v hv
          by_cases hsp : b.spot = none
          · rw [add_add b _ _ hsp]; exact hcell
          · by_cases h0 : l * sz = 0
            · simpa [Addr.add, h0] using hcell
            · by_cases hi0 : i = 0
              · simpa [Addr.add, h0, hi0] using hcell
              · have : ¬ (l * sz + i = 0) := by omega
                simp only [Addr.add, h0, hi0, this, if_false, Nat.add_assoc] at hcell ⊢
                exact hcell
    · cases hv
theorem Bts.cut {s : Sl} {bs : List UInt8} (h : Bts w s bs) {l hi : Nat} (h1 : l ≤ hi) (h2 : hi ≤ bs.length) : Bts w (s.cut 1 l hi) ((bs.drop l).take (hi - l)) := by
  have := Rd.cut h h1 (by rw [Bts.len h]; exact h2)
  unfold Bts
  rw [List.map_take, List.map_drop]
  simpa using this
theorem ix_i {t e sz : Nat} {z : Value} [h : SliceTy P t e sz z] {s : Sl} {i : Int} {K : Addr → World → Prop} {a : Addr} (ha : s.a = some a) (h0 : 0 ≤ i) (h1 : i < s.len) (hK : K (a.add (i.toNat * sz)) w) :
    semS P (Instr.indexAt t (.slice s.a s.len s.cap) (.int .i64 i)) (.one .adr) K w := by
  refine ⟨.pointer (some (a.add (i.toNat * sz))), w, ?_, hK⟩
  simp [Instr.indexAt, asIntOf, run_underlying h.und, ha, h0, h1, sizeOf_elem (t := t) (sz := sz)]
theorem ixQ_i {t e sz : Nat} {z : Value} [h : SliceTy P t e sz z] {s : Sl} {i : Int} {C : World → Prop} {K : Addr → Prop} {a : Addr} (ha : s.a = some a) (h0 : 0 ≤ i) (h1 : i < s.len) (hK : K (a.add (i.toNat * sz))) :
    semQ P C (Instr.indexAt t (.slice s.a s.len s.cap) (.int .i64 i)) (.one .adr) K := by
  refine ⟨.pointer (some (a.add (i.toNat * sz))), fun w _ => ?_, hK⟩
  simp [Instr.indexAt, asIntOf, run_underlying h.und, ha, h0, h1, sizeOf_elem (t := t) (sz := sz)]
/-- Where there is an element there is a place. -/
theorem Rd.some {s : Sl} {sz : Nat} {cs : List Value} (h : Rd w s sz cs) (hl : 0 < s.len) : ∃ a, s.a = some a := by
  cases ha : s.a with
  | none => have := (h.nil ha).1; omega
  | some a => exact ⟨a, rfl⟩
/-- An element of one cell, read. -/
theorem elem_i {t e : Nat} {z : Value} [SliceTy P t e 1 z] [LeafTy P e] {s : Sl} {cs : List Value} {i : Int} {l : Lf} {x : l.T} {K : l.T → World → Prop} (hs : Rd w s 1 cs) (h0 : 0 ≤ i) (h1 : i < s.len) (hx : cs[i.toNat]? = some (l.enc x)) (hK : K x w) :
    semS P (Instr.indexAt t (.slice s.a s.len s.cap) (.int .i64 i)) (.one .adr) (fun a w => semS P (Instr.loadAt e (.pointer (some a))) (.one l) K w) w := by
  obtain ⟨a, ha⟩ := hs.some (by omega)
  exact ix_i ha h0 h1 (ld_i x (by simpa using hs.cells a ha _ _ hx) hK)
theorem bytes_get {bs : List UInt8} {i : Nat} (h : i < bs.length) : (bs.map vB)[i]? = some (Lf.enc (.int .u8) (bs[i].toNat : Int)) := by simp [h, vB, Lf.enc]

theorem bytes_get? {bs : List UInt8} {i : Nat} {b : UInt8} (h : bs[i]? = some b) : (bs.map vB)[i]? = some (Lf.enc (.int .u8) (b.toNat : Int)) := by simp [h, vB, Lf.enc]

/-! ### strings out of bytes -/
def str (bs : List UInt8) : ByteArray := ⟨bs.toArray⟩
@[simp] theorem str_toList (bs : List UInt8) : (str bs).toList = bs := by
  rw [ByteArray.toList_eq]; simp [str]
theorem str_inj {a b : List UInt8} (h : str a = str b) : a = b := by
  have := congrArg ByteArray.toList h
  rwa [str_toList, str_toList] at this
theorem str_of (s : ByteArray) : str s.toList = s := by
  rw [ByteArray.toList_eq]
  obtain ⟨⟨l⟩⟩ := s
  rfl
@[simp] theorem str_size (bs : List UInt8) : (str bs).size = bs.length := by simp [str, ByteArray.size]
theorem run_b2s {t u e sz : Nat} {z : Value} [h : SliceTy P t e sz z] [he : ByteTy P e] [hu : StrTy P u] {s : Sl} {bs : List UInt8} (hb : Bts w s bs) : (convert t u (.slice s.a s.len s.cap)).run P w = .ok (.string (str bs)) w := by
  cases ha : s.a with
  | none =>
    have h0 := (hb.nil ha).1
    have hl := Bts.len hb
    have : bs = [] := List.eq_nil_of_length_eq_zero (by omega)
    subst this
    simp [convert, run_underlying h.und, run_underlying he.und, run_underlying hu.und, Conv.bytesToString, str]
    rfl
  | some a =>
    rw [Bts.len hb]
    refine run_convert_bytes_back w t u e a s.cap bs h.und he.und hu.und fun j hj => ?_
    exact hb.cells a ha j _ (bytes_get hj)
theorem b2s_i {t u e sz : Nat} {z : Value} [SliceTy P t e sz z] [ByteTy P e] [StrTy P u] {s : Sl} {bs : List UInt8} {K : ByteArray → World → Prop} (hb : Bts w s bs) (hK : K (str bs) w) :
    semS P (convert t u (.slice s.a s.len s.cap)) (.one .str) K w := ⟨_, w, run_b2s hb, hK⟩
theorem b2sQ_i {t u e sz : Nat} {z : Value} [SliceTy P t e sz z] [ByteTy P e] [StrTy P u] {s : Sl} {bs : List UInt8} {C : World → Prop} {K : ByteArray → Prop} (hb : ∀ w, C w → Bts w s bs) (hK : K (str bs)) :
    semQ P C (convert t u (.slice s.a s.len s.cap)) (.one .str) K := ⟨_, fun w hw => run_b2s (hb w hw), hK⟩
end

/-! ### the pieces' own rules -/
theorem more_i {C : World → Prop} {w : World} {K : (World → Prop) → Prop} (h : C w) (hK : K C) : moreS C w K := ⟨C, h, fun _ h => h, hK⟩
theorem more2_i {C : World → Prop} {w : World} {K : (World → Prop) → Prop} (C' : World → Prop) (h : C' w) (hs : ∀ x, C' x → C x) (hK : K C') : moreS C w K := ⟨C', h, hs, hK⟩
theorem cond_i {b : Bool} {x y : Prop} (h1 : b = true → x) (h2 : b = false → y) : cond b x y := by cases b <;> simp_all
theorem nil_i {p : Option Addr} {a : Addr} {K : Addr → Prop} (hp : p = some a) (h : K a) : nilS p K := by subst hp; exact h
theorem join_i {σ : Type} {rest : σ → World → Prop} {f : (σ → World → Prop) → Prop} (J : σ → World → Prop) (h1 : ∀ s w, J s w → rest s w) (h2 : ∀ K : σ → World → Prop, (∀ s w, J s w → K s w) → f K) : joinS rest f := h2 rest h1
theorem loop_i {σ : Type} {body : σ → World → (σ → World → Prop) → Prop} {s : σ} {w : World} (I : σ → World → Prop) (μ : σ → World → Nat) (h0 : I s w)
    (h : ∀ s w (again : σ → World → Prop), I s w → (∀ s' w', I s' w' → μ s' w' < μ s w → again s' w') → body s w again) : loopS body s w :=
  ⟨I, μ, h0, fun s w hI => h s w _ hI fun s' w' h1 h2 => ⟨h1, h2⟩⟩
end Go.Eng
