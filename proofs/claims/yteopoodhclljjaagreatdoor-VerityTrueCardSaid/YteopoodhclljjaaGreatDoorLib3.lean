/- The library of the second stage: variables of one's own (boxes, structs, arrays), and what is loaded out of rows. -/
import Derived.Test.YteopoodhclljjaaGreatDoorLib2
set_option linter.unusedSimpArgs false
set_option linter.unusedVariables false
namespace Go.Eng
open Go

/-- Block g is a variable's own: its cells are cs. -/
def Var (w : World) (g : Nat) (cs : List Value) : Prop := ∃ e fz, w.heap[g]? = some (.cells cs.toArray e fz) ∧ ∀ i, i < cs.length → ¬ (fz.1 ≤ i ∧ i < fz.2)
abbrev at_ (g o : Nat) : Addr := ⟨g, o, none⟩
theorem Var.lt {w : World} {g : Nat} {cs : List Value} (h : Var w g cs) : g < w.heap.size := by
  obtain ⟨e, fz, h, _⟩ := h; exact (Array.getElem?_eq_some_iff.1 h).1
theorem Var.cell {w : World} {g : Nat} {cs : List Value} (h : Var w g cs) {i : Nat} {v : Value} (hv : cs[i]? = some v) : w.cell? ⟨g, i, none⟩ = some v := by
  obtain ⟨e, fz, h, _⟩ := h
  rw [cell_of_row w g i cs.toArray e fz h]; simpa using hv
theorem Var.fr {S : Nat → Prop} {w w' : World} {g : Nat} {cs : List Value} (h : Var w g cs) (hf : Fr S w w') (hs : ¬ S g) : Var w' g cs := by
  obtain ⟨e, fz, h, h2⟩ := h; exact ⟨e, fz, hf.heapAt h hs, h2⟩
theorem Var.ext {w w' : World} {g : Nat} {cs : List Value} (h : Var w g cs) (hf : Ext w w') : Var w' g cs := h.fr hf id
theorem Var.frozen {w : World} {g : Nat} {cs : List Value} (h : Var w g cs) {i : Nat} (hi : i < cs.length) : w.frozen? ⟨g, i, none⟩ = false := by
  obtain ⟨e, fz, h, h2⟩ := h
  simp only [World.frozen?, h]
  rw [Bool.eq_false_iff]
  intro hx
  simp only [Bool.and_eq_true, decide_eq_true_eq] at hx
  exact h2 i hi hx

class VarTy (P : Program) (t : TypeId) (n : outParam Nat) (z : outParam Value) : Prop where
  info : (P.info? t).map (fun i => (i.size, i.zero)) = some (n, some z)
  size : z.cells.size = n
class ArrTy (P : Program) (t : TypeId) (k e sz : outParam Nat) : Prop where
  und : P.underlying t = some (.array k e)
  elem : (P.info? e).map (·.size) = some sz
theorem ArrTy.size {P : Program} {t k e sz : Nat} (h : ArrTy P t k e sz) (w : World) : (sizeOf e).run P w = .ok sz w := by
  have := h.elem
  cases hi : P.info? e with
  | none => simp [hi] at this
  | some i => simp [hi] at this; simp [sizeOf, typeInfo, hi, this]
class AggTy (P : Program) (t : TypeId) (n : outParam Nat) : Prop where
  agg : (match P.underlying t with | some (.struct _) => true | some (.array _ _) => true | _ => false) = true
  size : (P.info? t).map (·.size) = some n
section
variable {P : Program} {w : World}
theorem isAgg_agg (t : TypeId) {n : Nat} [h : AggTy P t n] : (isAgg t).run P w = .ok true w := by
  have := h.agg
  cases hu : P.underlying t with
  | none => simp [hu] at this
  | some d =>
    have hr := run_underlying (w := w) hu
    cases d <;> simp [hu] at this <;> simp [isAgg, hr]
theorem sizeOf_agg (t : TypeId) {n : Nat} [h : AggTy P t n] : (sizeOf t).run P w = .ok n w := by
  have := h.size
  cases hi : P.info? t with
  | none => simp [hi] at this
  | some i => simp [hi] at this; simp [sizeOf, typeInfo, hi, this]
theorem sizeOf_var (t : TypeId) {n : Nat} {z : Value} [h : VarTy P t n z] : (sizeOf t).run P w = .ok n w := by
  have := h.info
  cases hi : P.info? t with
  | none => simp [hi] at this
  | some i => simp [hi] at this; simp [sizeOf, typeInfo, hi, this]
theorem zero_var (t : TypeId) {n : Nat} {z : Value} [h : VarTy P t n z] : (zeroValue t).run P w = .ok z w := by
  have := h.info
  cases hi : P.info? t with
  | none => simp [hi] at this
  | some i => simp [hi] at this; simp [zeroValue, typeInfo, hi, this]
theorem Var.alloc (w : World) (cs : List Value) (t : TypeId) : Var (w.alloc (.cells cs.toArray t)) w.heap.size cs :=
  ⟨t, (0, 0), heap_alloc_new w _, fz0⟩
theorem box_i {t : TypeId} {v : Value} {K : Addr → World → Prop} (hK : ∀ g w', Ext w w' → w.heap.size ≤ g → Var w' g v.cells.toList → K (at_ g 0) w') : semS P (Instr.box t v) (.one .adr) K w := by
  refine ⟨.pointer (some (at_ w.heap.size 0)), w.alloc (.cells v.cells t), rfl, hK _ _ (Ext.alloc _ _) (Nat.le_refl _) ?_⟩
  have := Var.alloc w v.cells.toList t
  simpa using this
theorem alloc_i {t n : Nat} {z : Value} [VarTy P t n z] {K : Addr → World → Prop} (hK : ∀ g w', Ext w w' → w.heap.size ≤ g → Var w' g z.cells.toList → K (at_ g 0) w') : semS P (Instr.alloc t true (.tuple #[])) (.one .adr) K w := by
  refine ⟨.pointer (some (at_ w.heap.size 0)), w.alloc (.cells z.cells t), ?_, hK _ _ (Ext.alloc _ _) (Nat.le_refl _) ?_⟩
  · simp [Instr.alloc, zero_var t (z := z), newVar, newRow]
  · have := Var.alloc w z.cells.toList t
    simpa using this
theorem run_loadCells_of (a : Addr) : ∀ (cs : List Value) (i : Nat) (acc : Array Value), (∀ j v, cs[j]? = some v → w.cell? (a.add (i + j)) = some v) → (loadCellsFrom a i cs.length acc).run P w = .ok (acc ++ cs.toArray) w
  | [], i, acc, _ => by simp [loadCellsFrom]
  | c :: cs, i, acc, h => by
    have ih := run_loadCells_of a cs (i + 1) (acc.push c) fun j v hv => by
      have := h (j + 1) v (by simpa using hv)
      rwa [show i + (j + 1) = i + 1 + j by omega] at this
    have h0 := h 0 c rfl
    simp only [Nat.add_zero] at h0
    simp only [List.length_cons, loadCellsFrom, Sem.run_bind]
    rw [show (load (a.add i)).run P w = .ok c w by simp [h0]]
    simp only [Result.andThen_ok, ih]
    simp
theorem loadVar_agg (t : TypeId) {n : Nat} [AggTy P t n] {a : Addr} {cs : List Value} (hl : cs.length = n) (h : ∀ j v, cs[j]? = some v → w.cell? (a.add j) = some v) : (loadVar t a).run P w = .ok (.agg cs.toArray) w := by
  have hc := run_loadCells_of (P := P) (w := w) a cs 0 #[] fun j v hv => by simpa using h j v hv
  rw [hl] at hc
  simp [loadVar, isAgg_agg t (n := n), sizeOf_agg t (n := n), loadCells, hc]
theorem ldA_i {t n : Nat} [AggTy P t n] {ls : List Lf} {a : Addr} {cs : List Value} {K : curL ls (World → Prop)} (hl : cs.length = n) (h : ∀ j v, cs[j]? = some v → w.cell? (a.add j) = some v) (hK : decL ls cs K fun r => r w) : semS P (Instr.loadAt t (.pointer (some a))) (.agg ls) K w := by
  refine ⟨.agg cs.toArray, w, ?_, by simpa [Ty.dec] using hK⟩
  simp [Instr.loadAt, Instr.sureAddr, loadVar_agg t (n := n) hl h]
theorem ldAQ_i {t n : Nat} [AggTy P t n] {ls : List Lf} {a : Addr} (cs : List Value) {C : World → Prop} {K : curL ls Prop} (hl : cs.length = n) (h : ∀ w, C w → ∀ j v, cs[j]? = some v → w.cell? (a.add j) = some v) (hK : decL ls cs K fun r => r) : semQ P C (Instr.loadAt t (.pointer (some a))) (.agg ls) K := by
  refine ⟨.agg cs.toArray, fun w hw => ?_, by simpa [Ty.dec] using hK⟩
  simp [Instr.loadAt, Instr.sureAddr, loadVar_agg t (n := n) hl (h w hw)]
theorem Var.cells {g o n : Nat} {cs : List Value} (h : Var w g cs) : ∀ j v, ((cs.drop o).take n)[j]? = some v → w.cell? ((at_ g o).add j) = some v := by
  intro j v hv
  rw [List.getElem?_take] at hv
  split at hv
  · rw [List.getElem?_drop] at hv
    rw [Addr.add_lit]; exact h.cell hv
  · cases hv
/-- A variable's cells from o on, as one value. -/
theorem ldV_i {t n : Nat} [AggTy P t n] {ls : List Lf} {g : Nat} (o : Nat) {cs : List Value} {K : curL ls (World → Prop)} (h : Var w g cs) (hn : o + n ≤ cs.length) (hK : decL ls ((cs.drop o).take n) K fun r => r w) : semS P (Instr.loadAt t (.pointer (some (at_ g o)))) (.agg ls) K w :=
  ldA_i (by simp; omega) h.cells hK
theorem ldVQ_i {t n : Nat} [AggTy P t n] {ls : List Lf} {g : Nat} (o : Nat) {cs : List Value} {C : World → Prop} {K : curL ls Prop} (h : ∀ w, C w → Var w g cs) (hn : o + n ≤ cs.length) (hK : decL ls ((cs.drop o).take n) K fun r => r) : semQ P C (Instr.loadAt t (.pointer (some (at_ g o)))) (.agg ls) K :=
  ldAQ_i ((cs.drop o).take n) (by simp; omega) (fun w hw => (h w hw).cells) hK
theorem ld1_i {t : TypeId} [LeafTy P t] {g o : Nat} {cs : List Value} {l : Lf} (x : l.T) {K : l.T → World → Prop} (h : Var w g cs) (hv : cs[o]? = some (l.enc x)) (hK : K x w) : semS P (Instr.loadAt t (.pointer (some (at_ g o)))) (.one l) K w :=
  ld_i x (h.cell hv) hK
theorem ld1Q_i {t : TypeId} [LeafTy P t] {g o : Nat} {cs : List Value} {l : Lf} (x : l.T) {C : World → Prop} {K : l.T → Prop} (h : ∀ w, C w → Var w g cs) (hv : cs[o]? = some (l.enc x)) (hK : K x) : semQ P C (Instr.loadAt t (.pointer (some (at_ g o)))) (.one l) K :=
  ldQ_i x (fun w hw => (h w hw).cell hv) hK
/-- A store of one cell. -/
theorem Var.set {g : Nat} {cs : List Value} (h : Var w g cs) (i : Nat) (u : Value) : Fr (fun k => k = g) w (w.setCell ⟨g, i, none⟩ u) ∧ Var (w.setCell ⟨g, i, none⟩ u) g (cs.set i u) := by
  obtain ⟨e, fz, h, h2⟩ := h
  rw [setCell_eq_setRow w g i cs.toArray e fz u h]
  refine ⟨fr_setRow w g _, e, fz, ?_, by simpa using h2⟩
  rw [setRow_heap w g cs.toArray _ e fz h]; simp
theorem st1_i {t : TypeId} [LeafTy P t] {g o : Nat} {cs : List Value} {u : Value} {K : World → Prop} (h : Var w g cs) (ho : o < cs.length) (hu : u.oneCell' = true) (hK : ∀ w', Fr (fun k => k = g) w w' → Var w' g (cs.set o u) → K w') :
    semU P (Instr.storeAt t (.pointer (some (at_ g o))) u) K w :=
  st_i (h.cell (List.getElem?_eq_getElem ho)) (h.frozen ho) hu (hK _ (h.set o u).1 (h.set o u).2)
/-- A store of an aggregate at place o. -/
theorem run_storeV {t n : Nat} [AggTy P t n] {g o : Nat} {cs vs : List Value} (h : Var w g cs) (hl : vs.length = n) (hn : o + n ≤ cs.length) (h1 : ∀ v ∈ vs, v.oneCell' = true) :
    ∃ w', (Instr.storeAt t (.pointer (some (at_ g o))) (.agg vs.toArray)).run P w = .ok () w' ∧ Fr (fun k => k = g) w w' ∧ Var w' g (cs.take o ++ vs ++ cs.drop (o + n)) := by
  obtain ⟨e, fz, h, h2⟩ := h
  have hr := run_storeRow (P := P) g o e fz vs 0 cs.toArray w h (by simpa using h2) (by simp; omega) h1
  refine ⟨w.setRow g (cs.take o ++ vs ++ cs.drop (o + n)).toArray, ?_, fr_setRow w g _, e, fz, ?_, ?_⟩
  · simp only [Nat.add_zero, hl] at hr
    simp [Instr.storeAt, Instr.sureAddr, storeVar, Value.cells, hl, sizeOf_agg t (n := n), hr]
  · rw [setRow_heap w g cs.toArray _ e fz h]
  · intro i hi; exact h2 i (by simp at hi; omega)
theorem stV_i {t n : Nat} [AggTy P t n] {g : Nat} (o : Nat) {cs vs : List Value} {K : World → Prop} (h : Var w g cs) (hl : vs.length = n) (hn : o + n ≤ cs.length) (h1 : ∀ v ∈ vs, v.oneCell' = true)
    (hK : ∀ w', Fr (fun k => k = g) w w' → Var w' g (cs.take o ++ vs ++ cs.drop (o + n)) → K w') : semU P (Instr.storeAt t (.pointer (some (at_ g o))) (.agg vs.toArray)) K w := by
  obtain ⟨w', h3, h4, h5⟩ := run_storeV (P := P) (t := t) h hl hn h1
  exact ⟨w', h3, hK w' h4 h5⟩
/-- A result that lies in memory. -/
theorem resV_i {t n : Nat} [AggTy P t n] {g : Nat} {cs : List Value} {R : Value → Prop} (h : Var w g cs) (hn : cs.length = n) (hK : R (.agg cs.toArray)) : ∃ v, (loadVar t (at_ g 0)).run P w = .ok v w ∧ R v :=
  ⟨_, loadVar_agg t hn (fun j v hv => by rw [Addr.add_lit, Nat.zero_add]; exact h.cell hv), hK⟩
theorem res1_i {t : TypeId} [LeafTy P t] {g : Nat} {cs : List Value} {u : Value} {R : Value → Prop} (h : Var w g cs) (hv : cs[0]? = some u) (hK : R u) : ∃ v, (loadVar t (at_ g 0)).run P w = .ok v w ∧ R v :=
  ⟨_, loadVar_leaf t (h.cell hv), hK⟩
/-- An array's element. -/
theorem ixA_i {t k e sz : Nat} [h : ArrTy P t k e sz] {a : Addr} {i : Int} {K : Addr → World → Prop} (h0 : 0 ≤ i) (h1 : i < k) (hK : K (a.add (i.toNat * sz)) w) : semS P (Instr.indexAt t (.pointer (some a)) (.int .i64 i)) (.one .adr) K w := by
  refine ⟨.pointer (some (a.add (i.toNat * sz))), w, ?_, hK⟩
  simp [Instr.indexAt, asIntOf, run_underlying h.und, Instr.sureAddr, h0, h1, h.size w]
theorem ixAQ_i {t k e sz : Nat} [h : ArrTy P t k e sz] {a : Addr} {i : Int} {C : World → Prop} {K : Addr → Prop} (h0 : 0 ≤ i) (h1 : i < k) (hK : K (a.add (i.toNat * sz))) : semQ P C (Instr.indexAt t (.pointer (some a)) (.int .i64 i)) (.one .adr) K := by
  refine ⟨.pointer (some (a.add (i.toNat * sz))), fun w _ => ?_, hK⟩
  simp [Instr.indexAt, asIntOf, run_underlying h.und, Instr.sureAddr, h0, h1, h.size w]
/-- Two places are one. -/
theorem add_add' (a : Addr) (i j : Nat) : (a.add i).add j = a.add (i + j) := by
  unfold Addr.add
  by_cases hi : i = 0 <;> by_cases hj : j = 0 <;> simp [hi, hj] <;> omega
end
end Go.Eng
