/- The library of the second stage: loops that range over a function. -/
import Derived.Test.YteopoodhclljjaaGreatDoorEng5
import Derived.Test.YteopoodhclljjaaGreatDoorLib4
set_option linter.unusedSimpArgs false
set_option linter.unusedVariables false
namespace Go.Eng
open Go

section
variable {P : Program} {w : World}
theorem run_callFunc_body {f : FuncId} {fn : Func} (hf : P.funcs[f]? = some fn) (hn : (fn.name == "runtime.NumGoroutine") = false) (hb : fn.body.isNone = false) (args : Array Value) (w : World) :
    (callFunc f args).run P w = .ok (.enter f args) w := by
  have h1 : fn.name ≠ "runtime.NumGoroutine" := by simpa using hn
  have h2 : ∃ c, fn.body = some c := by cases hc : fn.body with
    | none => rw [hc] at hb; cases hb
    | some c => exact ⟨c, rfl⟩
  obtain ⟨c, hc⟩ := h2
  simp [callFunc, hf, h1, hc]
theorem fr_putObj (w : World) (l : Nat) (o : Obj) : Fr (fun k => k = l) w (w.putObj l o) := by
  refine ⟨rfl, rfl, rfl, by simp [World.putObj], fun k _ hk => ?_⟩
  simp only [World.putObj]
  rw [Array.getElem?_setIfInBounds_ne (fun h => hk h.symm)]
theorem putObj_at {w : World} {l : Nat} {o x : Obj} (h : w.heap[l]? = some x) : (w.putObj l o).heap[l]? = some o := by
  have hl := (Array.getElem?_eq_some_iff.1 h).1
  simp [World.putObj, hl]
theorem putObj_ne {w : World} {l k : Nat} (o : Obj) (h : k ≠ l) : (w.putObj l o).heap[k]? = w.heap[k]? := by
  simp only [World.putObj]
  rw [Array.getElem?_setIfInBounds_ne (fun h' => h h'.symm)]
theorem Ext.putObj {a b : World} (h : Ext a b) {l : Nat} (o : Obj) (hl : a.heap.size ≤ l) : Ext a (b.putObj l o) := Fr.own1 h (fr_putObj b l o) hl
theorem range_i {gf : FuncId} {fn : Func} {lb : Array Value} {body : Nat → Obj → Obj → List Value → World → (World → Prop) → Prop} {K : Nat → World → Prop} (hf : P.funcs[gf]? = some fn) (hn : (fn.name == "runtime.NumGoroutine") = false) (hb : fn.body.isNone = false)
    (h : ∀ (l D : Nat) (oR oB : Obj) (W1 : World), Ext w W1 → w.heap.size ≤ l → w.heap.size ≤ D → l ≠ D → W1.heap[l]? = some oR → W1.heap[D]? = some (.deferred (some [])) →
      (∀ (xs : List Value) (W : World) (R : Bool → World → Prop), W.heap[l]? = some oR → body l oR oB xs W (R true) → callY P (callSem (.func (.yield l) #[] #[]) xs.toArray) [.one .bool] R W) →
      callS P gf (#[.func (.yield l) #[] #[]] ++ lb) [] (fun W => W.heap[l]? = some oR ∧ ∀ oX, K D (W.putObj l oX)) W1) : rangeS P (.func (.func gf) #[] lb) w body K :=
  ⟨gf, lb, rfl, fun args w => run_callFunc_body hf hn hb args w, h⟩
theorem Sl.cut_inB {s : Sl} {sz l h k : Nat} (hk : (s.cut sz l h).inB k) : s.inB k := by
  obtain ⟨a, ha, rfl⟩ := hk
  unfold Sl.cut at ha
  simp only at ha
  split at ha
  · exact ⟨a, ha, rfl⟩
  · cases hs : s.a with
    | none => rw [hs] at ha; cases ha
    | some b => rw [hs] at ha; simp at ha; subst ha; exact ⟨b, hs, by rw [add_block]⟩
theorem Sl.cut3_inB {s : Sl} {sz l h m k : Nat} (hk : (s.cut3 sz l h m).inB k) : s.inB k := by
  obtain ⟨a, ha, rfl⟩ := hk
  unfold Sl.cut3 at ha
  simp only at ha
  split at ha
  · exact ⟨a, ha, rfl⟩
  · cases hs : s.a with
    | none => rw [hs] at ha; cases ha
    | some b => rw [hs] at ha; simp at ha; subst ha; exact ⟨b, hs, by rw [add_block]⟩
theorem rd_fr_ne {S : Nat → Prop} {w w' : World} {s : Sl} {sz : Nat} {cs : List Value} (h : Rd w s sz cs) (hf : Fr S w w') (hs : cs ≠ [] → ∀ a, s.a = some a → ¬ S a.block) : Rd w' s sz cs := by
  by_cases hc : cs = []
  · subst hc
    exact ⟨h.len, h.cap, h.nil, fun a ha i v hv => by simp at hv⟩
  · exact h.fr hf (hs hc)
theorem rd_lt {w : World} {s : Sl} {sz : Nat} {cs : List Value} (h : Rd w s sz cs) (hc : cs ≠ []) {a : Addr} (ha : s.a = some a) : a.block < w.heap.size := by
  cases cs with
  | nil => exact absurd rfl hc
  | cons v cs =>
    have := World.block_lt_of_cell? w _ (h.cells a ha 0 v rfl)
    rwa [add_block] at this
/-! ### slices of slices of bytes -/
def slV (s : Sl) : Value := .slice s.a s.len s.cap
theorem slV_cells (s : Sl) : (slV s).cells = #[slV s] := rfl
structure Parts (w : World) (s : Sl) (xs : List (Sl × List UInt8)) : Prop where
  rd : Rd w s 1 (xs.map fun x => slV x.1)
  each : ∀ x ∈ xs, Bts w x.1 x.2
theorem Parts.ext {w w' : World} {s : Sl} {xs : List (Sl × List UInt8)} (h : Parts w s xs) (e : Ext w w') : Parts w' s xs := ⟨h.rd.ext e, fun x hx => (h.each x hx).ext e⟩
theorem Parts.len {w : World} {s : Sl} {xs : List (Sl × List UInt8)} (h : Parts w s xs) : s.len = xs.length := by have := h.rd.len; simp at this; omega
def flatB (xs : List (Sl × List UInt8)) : List UInt8 := xs.flatMap (·.2)
theorem flatB_snoc {xs : List (Sl × List UInt8)} {i : Nat} (h : i < xs.length) : flatB (xs.take (i + 1)) = flatB (xs.take i) ++ xs[i].2 := by
  unfold flatB
  rw [List.take_succ_eq_append_getElem h, List.flatMap_append]; simp
theorem flatB_take_le (xs : List (Sl × List UInt8)) (i : Nat) : (flatB (xs.take i)).length ≤ (flatB xs).length := by
  have : flatB xs = flatB (xs.take i) ++ flatB (xs.drop i) := by
    unfold flatB; rw [← List.flatMap_append, List.take_append_drop]
  rw [this]; simp
/-- The i-th one, read. -/
theorem part_i {t e : Nat} {z : Value} [SliceTy P t e 1 z] [LeafTy P e] {s : Sl} {xs : List (Sl × List UInt8)} {i : Int} {K : Sl → World → Prop} (h : Parts w s xs) (h0 : 0 ≤ i) (h1 : i.toNat < xs.length) (hK : K xs[i.toNat].1 w) :
    semS P (Instr.indexAt t (.slice s.a s.len s.cap) (.int .i64 i)) (.one .adr) (fun a w => semS P (Instr.loadAt e (.pointer (some a))) (.one .slc) K w) w :=
  elem_i (l := .slc) (x := xs[i.toNat].1) h.rd h0 (by rw [h.len]; omega) (by simp [h1]; rfl) hK
/-- '[][]byte{x}' -/
theorem one_i {t e : Nat} {z : Value} [SliceTy P t e 1 z] {x : Sl} {bs : List UInt8} {K : Sl → World → Prop} (hx : Bts w x bs) (hK : ∀ v w', Ext w w' → Parts w' v [(x, bs)] → K v w') :
    semS P (Instr.buildSlice t 1 #[(0, .slice x.a x.len x.cap)]) (.one .slc) K w := by
  refine buildV_i [slV x] rfl (fun v hv => by simp at hv; subst hv; exact ⟨rfl, rfl⟩) rfl (by omega) fun v w1 e1 o1 => hK v w1 e1 ⟨o1.rd, fun y hy => ?_⟩
  simp at hy; subst hy; exact hx.ext e1
theorem two_i {t e : Nat} {z : Value} [SliceTy P t e 1 z] {x y : Sl} {bs cs : List UInt8} {K : Sl → World → Prop} (hx : Bts w x bs) (hy : Bts w y cs) (hK : ∀ v w', Ext w w' → Parts w' v [(x, bs), (y, cs)] → K v w') :
    semS P (Instr.buildSlice t 2 #[(0, .slice x.a x.len x.cap), (1, .slice y.a y.len y.cap)]) (.one .slc) K w := by
  refine buildV_i [slV x, slV y] rfl (fun v hv => by simp at hv; rcases hv with rfl | rfl <;> exact ⟨rfl, rfl⟩) rfl (by omega) fun v w1 e1 o1 => hK v w1 e1 ⟨o1.rd, fun y hy => ?_⟩
  simp at hy; rcases hy with rfl | rfl
  · exact hx.ext e1
  · exact hy.ext e1
theorem three_i {t e : Nat} {z : Value} [SliceTy P t e 1 z] {x y u : Sl} {bs cs ds : List UInt8} {K : Sl → World → Prop} (hx : Bts w x bs) (hy : Bts w y cs) (hu : Bts w u ds) (hK : ∀ v w', Ext w w' → Parts w' v [(x, bs), (y, cs), (u, ds)] → K v w') :
    semS P (Instr.buildSlice t 3 #[(0, .slice x.a x.len x.cap), (1, .slice y.a y.len y.cap), (2, .slice u.a u.len u.cap)]) (.one .slc) K w := by
  refine buildV_i [slV x, slV y, slV u] rfl (fun v hv => by simp at hv; rcases hv with rfl | rfl | rfl <;> exact ⟨rfl, rfl⟩) rfl (by omega) fun v w1 e1 o1 => hK v w1 e1 ⟨o1.rd, fun y hy => ?_⟩
  simp at hy; rcases hy with rfl | rfl | rfl
  · exact hx.ext e1
  · exact hy.ext e1
  · exact hu.ext e1
end
end Go.Eng
