/- The library of the second stage: maps that the call makes. -/
import Derived.Test.YteopoodhclljjaaGreatDoorLib5
import Derived.MapKept
import Derived.Laws.Pointers
set_option linter.unusedSimpArgs false
set_option linter.unusedVariables false
namespace Go.Eng
open Go

class PtrTy (P : Program) (t : TypeId) : Prop where
  und : P.underlying t = some (.pointer (P.pointee t))
theorem ptrEq_i {P : Program} {t : TypeId} [h : PtrTy P t] {o1 o2 : Operand} {p : Option Addr} {K : Bool → World → Prop} {w : World} (hK : K p.isNone w) : semS P (binS .eql t o1 o2 (.pointer p) (.pointer none)) (.one .bool) K w := by
  refine ⟨.bool p.isNone, w, ?_, hK⟩
  have := run_eql_pointer_nil (P := P) w t p h.und
  have hg : (eqGuard .eql t o1 o2 (.pointer p) (.pointer none)).run P w = .ok () w := by simp [eqGuard]
  simp only [binS, Sem.run_bind, hg, Result.andThen_ok, this]
theorem ptrNe_i {P : Program} {t : TypeId} [h : PtrTy P t] {o1 o2 : Operand} {p : Option Addr} {K : Bool → World → Prop} {w : World} (hK : K (!p.isNone) w) : semS P (binS .neq t o1 o2 (.pointer p) (.pointer none)) (.one .bool) K w := by
  refine ⟨.bool (!p.isNone), w, ?_, hK⟩
  have := run_neq_pointer_nil (P := P) w t p h.und
  have hg : (eqGuard .neq t o1 o2 (.pointer p) (.pointer none)).run P w = .ok () w := by simp [eqGuard]
  simp only [binS, Sem.run_bind, hg, Result.andThen_ok, this]
theorem ptrNeQ_i {P : Program} {t : TypeId} [h : PtrTy P t] {o1 o2 : Operand} {p : Option Addr} {C : World → Prop} {K : Bool → Prop} (hK : K (!p.isNone)) : semQ P C (binS .neq t o1 o2 (.pointer p) (.pointer none)) (.one .bool) K := by
  refine ⟨.bool (!p.isNone), fun w _ => ?_, hK⟩
  have := run_neq_pointer_nil (P := P) w t p h.und
  have hg : (eqGuard .neq t o1 o2 (.pointer p) (.pointer none)).run P w = .ok () w := by simp [eqGuard]
  simp only [binS, Sem.run_bind, hg, Result.andThen_ok, this]
theorem ptrEqQ_i {P : Program} {t : TypeId} [h : PtrTy P t] {o1 o2 : Operand} {p : Option Addr} {C : World → Prop} {K : Bool → Prop} (hK : K p.isNone) : semQ P C (binS .eql t o1 o2 (.pointer p) (.pointer none)) (.one .bool) K := by
  refine ⟨.bool p.isNone, fun w _ => ?_, hK⟩
  have := run_eql_pointer_nil (P := P) w t p h.und
  have hg : (eqGuard .eql t o1 o2 (.pointer p) (.pointer none)).run P w = .ok () w := by simp [eqGuard]
  simp only [binS, Sem.run_bind, hg, Result.andThen_ok, this]
/-- Block m is a map that holds F: keys are spelt by ek, values by ev. -/
def MapAt {κ ν : Type} (w : World) (ek : κ → Value) (ev : ν → Value) (m : Nat) (F : κ → Option ν) : Prop :=
  ∃ (es : Array MapEntry) (clock : Nat) (l : List (κ × ν)), w.heap[m]? = some (.map es clock) ∧ es.toList.map (fun e => (e.key, e.val)) = l.map (fun x => (ek x.1, ev x.2)) ∧ (l.map (·.1)).Nodup ∧ ∀ k v, F k = some v ↔ (k, v) ∈ l
section
variable {κ ν : Type} {w : World} {ek : κ → Value} {ev : ν → Value} {m : Nat} {F : κ → Option ν}
theorem MapAt.lt (h : MapAt w ek ev m F) : m < w.heap.size := by
  obtain ⟨_, _, _, h, _⟩ := h; exact (Array.getElem?_eq_some_iff.1 h).1
theorem MapAt.fr {S : Nat → Prop} {w' : World} (h : MapAt w ek ev m F) (hf : Fr S w w') (hs : ¬ S m) : MapAt w' ek ev m F := by
  obtain ⟨es, c, l, h1, h2⟩ := h; exact ⟨es, c, l, hf.heapAt h1 hs, h2⟩
theorem MapAt.ext {w' : World} (h : MapAt w ek ev m F) (hf : Ext w w') : MapAt w' ek ev m F := h.fr hf id
theorem MapAt.congr {G : κ → Option ν} (h : MapAt w ek ev m F) (hg : ∀ k, F k = G k) : MapAt w ek ev m G := by
  obtain ⟨es, c, l, h1, h2, h3, h4⟩ := h; exact ⟨es, c, l, h1, h2, h3, fun k v => by rw [← hg]; exact h4 k v⟩
end
class MapTy (P : Program) (t : TypeId) (k e : outParam TypeId) (d : outParam TypeDesc) (z : outParam Value) : Prop where
  und : P.underlying t = some (.map k e)
  key : P.underlying k = some d
  zero : (P.info? e).map (fun i => i.zero) = some (some z)
class KeyOf {κ : Type} (d : TypeDesc) (ek : κ → Value) : Prop where
  isKey : ∀ k, MapKept.IsKey d (ek k)
  inj : ∀ a b, ek a = ek b → a = b
def kInt (n : Int) : Value := .int .i64 n
def kStr (l : List UInt8) : Value := .string (str l)
instance : KeyOf (.int .i64) kInt := ⟨fun _ => rfl, fun a b h => by simpa [kInt] using h⟩
instance : KeyOf .string kStr := ⟨fun _ => trivial, fun a b h => str_inj (by simpa [kStr] using h)⟩
def vPtr (a : Addr) : Value := .pointer (some a)
section
variable {P : Program} {w : World} {κ ν : Type} {ek : κ → Value} {ev : ν → Value} {t kt et : TypeId} {d : TypeDesc} {z : Value} {m : Nat} {F : κ → Option ν}
theorem MapTy.run_zero [h : MapTy P t kt et d z] : (zeroValue et).run P w = .ok z w := by
  have := h.zero
  cases hi : P.info? et with
  | none => simp [hi] at this
  | some i => simp [hi] at this; simp [zeroValue, typeInfo, hi, this]
theorem pairs_at {es : List MapEntry} {l : List (κ × ν)} (h : es.map (fun e => (e.key, e.val)) = l.map (fun x => (ek x.1, ev x.2))) {j : Nat} {e : MapEntry} (he : es[j]? = some e) : ∃ x, l[j]? = some x ∧ e.key = ek x.1 ∧ e.val = ev x.2 := by
  have := congrArg (·[j]?) h
  simp only [List.getElem?_map, he, Option.map_some] at this
  cases hx : l[j]? with
  | none => rw [hx] at this; cases this
  | some x =>
    rw [hx] at this
    simp only [Option.map_some, Option.some.injEq, Prod.mk.injEq] at this
    exact ⟨x, rfl, this.1, this.2⟩
theorem pairs_mem {es : List MapEntry} {l : List (κ × ν)} (h : es.map (fun e => (e.key, e.val)) = l.map (fun x => (ek x.1, ev x.2))) {x : κ × ν} (hx : x ∈ l) : ∃ e ∈ es, e.key = ek x.1 ∧ e.val = ev x.2 := by
  have : (ek x.1, ev x.2) ∈ l.map (fun x => (ek x.1, ev x.2)) := List.mem_map.2 ⟨x, hx, rfl⟩
  rw [← h] at this
  obtain ⟨e, he, h2⟩ := List.mem_map.1 this
  simp only [Prod.mk.injEq] at h2
  exact ⟨e, he, h2.1, h2.2⟩
/-- What a search in the map finds. -/
theorem MapAt.find [hk : KeyOf d ek] {es : Array MapEntry} {l : List (κ × ν)} (h : es.toList.map (fun e => (e.key, e.val)) = l.map (fun x => (ek x.1, ev x.2))) (hF : ∀ k v, F k = some v ↔ (k, v) ∈ l) (k : κ) :
    (Instr.findNow d (ek k) es.toList 0 = some none ∧ F k = none ∧ ∀ x ∈ l, x.1 ≠ k) ∨ ∃ (j : Nat) (e : MapEntry) (v : ν), Instr.findNow d (ek k) es.toList 0 = some (some (j, e.val)) ∧ es.toList[j]? = some e ∧ e.key = ek k ∧ e.val = ev v ∧ l[j]? = some (k, v) ∧ F k = some v := by
  have hks : ∀ x ∈ es.toList, MapKept.IsKey d x.key := fun e he => by
    obtain ⟨j, hj⟩ := List.getElem?_of_mem he
    obtain ⟨x, _, h2, _⟩ := pairs_at h hj
    rw [h2]; exact hk.isKey _
  rcases MapKept.findNow_spec (hk.isKey k) es.toList 0 hks with ⟨h1, h2⟩ | ⟨j, e, h1, h2, h3⟩
  · have hn : ∀ x ∈ l, x.1 ≠ k := fun x hx hxk => by
      obtain ⟨e, he, h3, _⟩ := pairs_mem h hx
      exact h2 e he (by rw [h3, hxk])
    refine .inl ⟨h1, ?_, hn⟩
    cases hv : F k with
    | none => rfl
    | some v => exact absurd rfl (hn _ ((hF k v).1 hv))
  · obtain ⟨⟨k', v⟩, hx, h4, h5⟩ := pairs_at h h2
    have : k' = k := hk.inj _ _ (h4.symm.trans h3)
    subst this
    refine .inr ⟨j, e, v, by simpa using h1, h2, h3, h5, hx, (hF _ _).2 (List.mem_of_getElem? hx)⟩
theorem run_lookup [ht : MapTy P t kt et d z] [hk : KeyOf d ek] (h : MapAt w ek ev m F) (k : κ) : (Instr.lookup t (.map (some m)) (ek k) false).run P w = .ok ((F k).elim z ev) w := by
  obtain ⟨es, c, l, h1, h2, h3, h4⟩ := h
  rcases MapAt.find (d := d) h2 h4 k with ⟨hf, hn, _⟩ | ⟨j, e, v, hf, _, _, hv, _, hF⟩
  · simp [Instr.lookup, run_underlying ht.und, MapKept.run_getObj_map h1, MapKept.run_checkKey ht.key (hk.isKey k), MapKept.run_findKey ht.key hf, hn, ht.run_zero]
  · simp [Instr.lookup, run_underlying ht.und, MapKept.run_getObj_map h1, MapKept.run_checkKey ht.key (hk.isKey k), MapKept.run_findKey ht.key hf, hF, hv]
theorem look_i [MapTy P t kt et d z] [KeyOf d ek] {lf : Lf} (x : lf.T) {k : κ} {kv : Value} {K : lf.T → World → Prop} (h : MapAt w ek ev m F) (hk : kv = ek k) (hx : (F k).elim z ev = lf.enc x) (hK : K x w) : semS P (Instr.lookup t (.map (some m)) kv false) (.one lf) K w := by
  subst hk
  exact ⟨_, w, run_lookup h k, by rw [hx]; exact one_dec hK⟩
theorem lookQ_i [MapTy P t kt et d z] [KeyOf d ek] {lf : Lf} (x : lf.T) {k : κ} {kv : Value} {C : World → Prop} {K : lf.T → Prop} (h : ∀ w, C w → MapAt w ek ev m F) (hk : kv = ek k) (hx : (F k).elim z ev = lf.enc x) (hK : K x) : semQ P C (Instr.lookup t (.map (some m)) kv false) (.one lf) K := by
  subst hk
  exact ⟨_, fun w hw => run_lookup (h w hw) k, by rw [hx]; exact one_decQ hK⟩
theorem makeMap_i {K : Option Nat → World → Prop} (hK : ∀ m w', Ext w w' → w.heap.size ≤ m → (∀ {κ ν : Type} (ek : κ → Value) (ev : ν → Value), MapAt w' ek ev m (fun _ => none)) → K (some m) w') : semS P (Instr.makeMap t none) (.one .mp) K w := by
  refine ⟨.map (some w.heap.size), w.alloc (.map #[] 0), by simp [Instr.makeMap], ?_⟩
  refine one_dec (l := .mp) (x := some w.heap.size) (hK _ _ (Ext.alloc _ _) (Nat.le_refl _) fun ek ev => ⟨#[], 0, [], heap_alloc_new w _, rfl, List.nodup_nil, fun k v => by simp⟩)
theorem map_eraseIdx_ {α β : Type} (f : α → β) : ∀ (l : List α) (i : Nat), (l.eraseIdx i).map f = (l.map f).eraseIdx i
  | [], _ => rfl
  | a :: l, 0 => rfl
  | a :: l, i + 1 => by simp [List.eraseIdx, map_eraseIdx_ f l i]
theorem nodup_at {l : List (κ × ν)} (h : (l.map (·.1)).Nodup) {i j : Nat} {k : κ} {v v' : ν} (hi : l[i]? = some (k, v)) (hj : l[j]? = some (k, v')) : i = j := by
  have h1 : (l.map (·.1))[i]? = some k := by simp [hi]
  have h2 : (l.map (·.1))[j]? = some k := by simp [hj]
  have hil := (List.getElem?_eq_some_iff.1 h1)
  have hjl := (List.getElem?_eq_some_iff.1 h2)
  obtain ⟨hi', e1⟩ := hil
  obtain ⟨hj', e2⟩ := hjl
  have hp := List.pairwise_iff_getElem.1 h
  rcases Nat.lt_trichotomy i j with hlt | heq | hgt
  · exact absurd (e1.trans e2.symm) (hp i j hi' hj' hlt)
  · exact heq
  · exact absurd (e2.trans e1.symm) (hp j i hj' hi' hgt)
theorem update_i [DecidableEq κ] [ht : MapTy P t kt et d z] [hk : KeyOf d ek] {k : κ} {v : ν} {kv vv : Value} {K : World → Prop} (h : MapAt w ek ev m F) (hkv : kv = ek k) (hvv : vv = ev v) (hK : ∀ w', Fr (fun i => i = m) w w' → MapAt w' ek ev m (fun x => if x = k then some v else F x) → K w') :
    semU P (Instr.mapUpdate t (.map (some m)) kv vv) K w := by
  subst hkv; subst hvv
  obtain ⟨es, c, l, h1, h2, h3, h4⟩ := h
  have hgo : ∀ o, ({ w with heap := w.heap.setIfInBounds m o } : World) = w.putObj m o := fun o => rfl
  rcases MapAt.find (d := d) h2 h4 k with ⟨hf, hn, hl⟩ | ⟨j, e, v0, hf, hj, hek, hv, hlj, hF⟩
  · refine ⟨w.putObj m (.map (es.push { key := ek k, val := ev v, born := c }) (c + 1)), ?_, hK _ (fr_putObj _ _ _) ⟨_, _, l ++ [(k, v)], putObj_at h1, by simp [h2], ?_, ?_⟩⟩
    · simp [Instr.mapUpdate, run_underlying ht.und, MapKept.run_getObj_map h1, MapKept.run_checkKey ht.key (hk.isKey k), MapKept.run_findKey ht.key hf, MapKept.run_setObj_map _ h1, World.putObj]
    · rw [List.map_append, List.nodup_append]
      refine ⟨h3, by simp, ?_⟩
      intro a ha b hb
      obtain ⟨x, hx, rfl⟩ := List.mem_map.1 ha
      simp at hb; subst hb
      exact hl x hx
    · intro k' v'
      simp only [List.mem_append, List.mem_singleton, Prod.mk.injEq]
      by_cases hkk : k' = k
      · subst hkk
        simp only [if_true, Option.some.injEq, true_and]
        constructor
        · intro hvv; exact .inr hvv.symm
        · rintro (hm | hm)
          · exact absurd rfl (hl _ hm)
          · exact hm.symm
      · simp only [hkk, if_false, false_and, or_false]; exact h4 k' v'
  · have hj' : es[j]? = some e := by simpa using hj
    have hjl : j < es.size := (Array.getElem?_eq_some_iff.1 hj').1
    refine ⟨w.putObj m (.map (es.modify j fun e => { e with key := ek k, val := ev v }) c), ?_, hK _ (fr_putObj _ _ _) ⟨_, _, l.set j (k, v), putObj_at h1, ?_, ?_, ?_⟩⟩
    · simp [Instr.mapUpdate, run_underlying ht.und, MapKept.run_getObj_map h1, MapKept.run_checkKey ht.key (hk.isKey k), MapKept.run_findKey ht.key hf, hj', hek, MapKept.run_keyThatStays (hk.isKey k), MapKept.run_setObj_map _ h1, World.putObj]
    · rw [List.map_set, ← h2]
      apply List.ext_getElem?
      intro i
      simp only [List.getElem?_map, Array.getElem?_toList, Array.getElem?_modify, List.getElem?_set]
      by_cases hij : j = i
      · subst hij
        simp only [if_true, hj', Option.map_some]
        simp [hjl]
      · simp [hij]
    · rw [List.map_set]
      have : (l.map (·.1)).set j k = l.map (·.1) := by
        apply List.ext_getElem?
        intro i
        rw [List.getElem?_set]
        by_cases hij : j = i
        · subst hij
          obtain ⟨h5, h6⟩ := List.getElem?_eq_some_iff.1 hlj
          simp [h5, h6]
        · simp [hij]
      simp only [this]; exact h3
    · intro k' v'
      by_cases hkk : k' = k
      · subst hkk
        simp only [if_true, Option.some.injEq]
        constructor
        · rintro rfl
          have hl := (List.getElem?_eq_some_iff.1 hlj).1
          exact List.mem_of_getElem? (i := j) (by simp [hl])
        · intro hm
          obtain ⟨i, hi⟩ := List.getElem?_of_mem hm
          rw [List.getElem?_set] at hi
          split at hi
          · split at hi
            · simp at hi; exact hi
            · cases hi
          · rename_i hne
            exact absurd (nodup_at h3 hlj hi) hne
      · simp only [hkk, if_false]
        rw [h4]
        constructor
        · intro hm
          obtain ⟨i, hi⟩ := List.getElem?_of_mem hm
          have hne : j ≠ i := fun h => by subst h; rw [hlj] at hi; simp at hi; exact hkk hi.1.symm
          exact List.mem_of_getElem? (i := i) (by rw [List.getElem?_set_ne hne]; exact hi)
        · intro hm
          obtain ⟨i, hi⟩ := List.getElem?_of_mem hm
          rw [List.getElem?_set] at hi
          split at hi
          · split at hi
            · simp at hi; exact absurd hi.1.symm hkk
            · cases hi
          · exact List.mem_of_getElem? hi
theorem delete_i [DecidableEq κ] [ht : MapTy P t kt et d z] [hk : KeyOf d ek] {k : κ} {kv : Value} {ty : TypeId} {K : World → Prop} (h : MapAt w ek ev m F) (hkv : kv = ek k) (hK : ∀ w', Fr (fun i => i = m) w w' → MapAt w' ek ev m (fun x => if x = k then none else F x) → K w') :
    semS P (Builtin.delete_ #[t, kt] ty #[.map (some m), kv]) (.tup []) K w := by
  subst hkv
  obtain ⟨es, c, l, h1, h2, h3, h4⟩ := h
  rcases MapAt.find (d := d) h2 h4 k with ⟨hf, hn, hl⟩ | ⟨j, e, v0, hf, hj, hek, hv, hlj, hF⟩
  · refine ⟨.tuple #[], w.putObj m (.map es c), ?_, hK _ (fr_putObj _ _ _) ⟨_, _, l, putObj_at h1, h2, h3, fun k' v' => ?_⟩⟩
    · simp [Builtin.delete_, run_underlying ht.und, MapKept.run_getObj_map h1, MapKept.run_checkKey ht.key (hk.isKey k), MapKept.run_findKey ht.key hf, MapKept.run_setObj_map _ h1, World.putObj]
    · by_cases hkk : k' = k
      · subst hkk
        simp only [if_true]
        constructor
        · intro h; cases h
        · intro hm; exact absurd rfl (hl _ hm)
      · simp only [hkk, if_false]; exact h4 k' v'
  · have hj' : es[j]? = some e := by simpa using hj
    have hjl : j < es.size := (Array.getElem?_eq_some_iff.1 hj').1
    refine ⟨.tuple #[], w.putObj m (.map (es.eraseIdxIfInBounds j) c), ?_, hK _ (fr_putObj _ _ _) ⟨_, _, l.eraseIdx j, putObj_at h1, ?_, ?_, fun k' v' => ?_⟩⟩
    · simp [Builtin.delete_, run_underlying ht.und, MapKept.run_getObj_map h1, MapKept.run_checkKey ht.key (hk.isKey k), MapKept.run_findKey ht.key hf, MapKept.run_setObj_map _ h1, World.putObj]
    · rw [show (es.eraseIdxIfInBounds j).toList = es.toList.eraseIdx j by simp [Array.eraseIdxIfInBounds, hjl]]
      rw [map_eraseIdx_, h2, map_eraseIdx_]
    · rw [map_eraseIdx_]
      exact (List.eraseIdx_sublist _ _).nodup h3
    · by_cases hkk : k' = k
      · subst hkk
        simp only [if_true]
        constructor
        · intro h; cases h
        · intro hm
          rw [List.mem_eraseIdx_iff_getElem?] at hm
          obtain ⟨i, hne, hi⟩ := hm
          exact absurd (nodup_at h3 hi hlj) hne
      · simp only [hkk, if_false]
        rw [h4, List.mem_eraseIdx_iff_getElem?]
        constructor
        · intro hm
          obtain ⟨i, hi⟩ := List.getElem?_of_mem hm
          exact ⟨i, fun h => by subst h; rw [hlj] at hi; simp at hi; exact hkk hi.1.symm, hi⟩
        · rintro ⟨i, _, hi⟩; exact List.mem_of_getElem? hi
/-- 'copy(dst, x)' into a variable's row. -/
theorem copyV_i' {t ty e : TypeId} {z : Value} [h : SliceTy P t e 1 z] {bb o : Nat} {cells ds : List Value} {dst x : Sl} {K : Int → World → Prop} (hv : Var w bb cells) (hd : dst.len ≠ 0 → dst.a = some (at_ bb o)) (hfit : o + dst.len ≤ cells.length) (hx : Rd w x 1 ds) (h1 : ∀ v ∈ ds, v.oneCell' = true)
    (hK : ∀ w', Fr (fun k => k = bb) w w' → Var w' bb (cells.take o ++ ds.take dst.len ++ cells.drop (o + min ds.length dst.len)) → K ((min ds.length dst.len : Nat) : Int) w') :
    semS P (Builtin.copy_ #[t, t] ty #[.slice dst.a dst.len dst.cap, .slice x.a x.len x.cap]) (.one (.int .i64)) K w := by
  have hxl : ds.length = x.len := by have := hx.len; omega
  obtain ⟨i, hi1, hi2, hi3, hi4, hi5, hi6⟩ := h.info
  have hmin : Nat.min x.len dst.len = min ds.length dst.len := by rw [hxl]
  have hfc : (Builtin.firstCells 1 (min ds.length dst.len) (.slice x.a x.len x.cap)).run P w = .ok (ds.take dst.len).toArray w := by
    cases hxa : x.a with
    | none =>
      have := (hx.nil hxa).1
      have hd0 : ds = [] := List.eq_nil_of_length_eq_zero (by omega)
      rw [hd0]; simpa using run_firstCells_none w _ _ _ _
    | some b =>
      refine run_firstCells_some w 1 _ b x.len x.cap (ds.take dst.len) (by rw [List.length_take, Nat.mul_one]; omega) fun j v hv => ?_
      rw [List.getElem?_take] at hv
      split at hv
      · exact hx.cells b hxa j v hv
      · cases hv
  by_cases h0 : min ds.length dst.len = 0
  · have ht : ds.take dst.len = [] := List.eq_nil_of_length_eq_zero (by rw [List.length_take]; omega)
    rw [ht] at hfc
    refine ⟨.int .i64 ((min ds.length dst.len : Nat) : Int), w, ?_, one_dec (l := .int .i64) (hK w (Fr.refl _ _) ?_)⟩
    · rw [h0] at hfc
      cases hda : dst.a <;> simp [Builtin.copy_, run_underlying h.und, Builtin.lenOf, sizeOf, typeInfo, hi1, hi2, hmin, h0, hfc, storeCells, goInt]
    · rw [ht, h0]; simpa using hv
  · have hda := hd (by omega)
    obtain ⟨te, fz, hg, hfz⟩ := hv
    have hst := run_storeRow (P := P) bb o te fz (ds.take dst.len) 0 cells.toArray w hg (by simpa using hfz) (by rw [List.length_take, List.size_toArray]; omega) (fun v hv => h1 v (List.mem_of_mem_take hv))
    simp only [Nat.add_zero] at hst
    have hlt : (ds.take dst.len).length = min ds.length dst.len := by simp; omega
    refine ⟨.int .i64 ((min ds.length dst.len : Nat) : Int), w.setRow bb (cells.take o ++ ds.take dst.len ++ cells.drop (o + (ds.take dst.len).length)).toArray, ?_, one_dec (l := .int .i64) (hK _ (fr_setRow _ _ _) ⟨te, fz, ?_, ?_⟩)⟩
    · simp [Builtin.copy_, run_underlying h.und, Builtin.lenOf, sizeOf, typeInfo, hi1, hi2, hmin, hfc, hda, hst, goInt]
    · rw [setRow_heap w bb cells.toArray _ te fz hg, hlt]
    · intro j hj; exact hfz j (by simp at hj; omega)
/-- 'make([]T, n)', its row known. -/
theorem makeRow_i {t e sz : Nat} {z : Value} [h : SliceTy P t e sz z] {n : Int} {K : Sl → World → Prop} (h0 : 0 ≤ n) (h1 : n ≤ 68719476736)
    (hK : ∀ g w', Ext w w' → w.heap.size ≤ g → Var w' g (Builtin.zeroCells z.cells n.toNat).toList → K ⟨some (at_ g 0), n.toNat, n.toNat⟩ w') : semS P (Instr.makeSlice t (.int .i64 n) (.int .i64 n)) (.one .slc) K w := by
  obtain ⟨i, hi1, hi2, hi3, hi4, hi5, hi6⟩ := h.info
  have hw : IntKind.i64.wrap n = n := wrap_i64 (by omega) (by omega)
  have hneg : ¬ n < 0 := by omega
  have hb : (i.bytes : Int) * n ≤ 2048 * 68719476736 := Int.mul_le_mul (by omega) h1 h0 (by omega)
  have hbig : ¬ (281474976710656 < (i.bytes : Int) * n) := by omega
  obtain ⟨m, rfl⟩ : ∃ m : Nat, n = m := ⟨n.toNat, by omega⟩
  refine ⟨Lf.enc .slc ⟨some ⟨w.heap.size, 0, none⟩, m, m⟩, w.alloc (.cells (Builtin.zeroCells z.cells m) e), ?_, one_dec (l := .slc) (hK w.heap.size _ (Ext.alloc _ _) (Nat.le_refl _) ?_)⟩
  · by_cases hm : m * sz = 0
    · have hz : Builtin.zeroCells z.cells m = #[] := by
        apply Array.eq_empty_of_size_eq_zero
        rw [size_zeroCells, hi5, hm]
      simp [Instr.makeSlice, run_underlying h.und, asInt, asIntOf, typeInfo, hi1, hw, hneg, hbig, sizeOf, hi2, hm, newRow, hz, Lf.enc]
      rw [show Array.map (fun (x : Nat) => (default : Value)) (Array.range 0) = #[] by simp]
    · have hz : Builtin.zeroCells z.cells m = (Array.range (m * sz)).map (fun i => z.cells[i % z.cells.size]!) := by simp [Builtin.zeroCells, hi5]
      simp [Instr.makeSlice, run_underlying h.und, asInt, asIntOf, typeInfo, hi1, hw, hneg, hbig, sizeOf, hi2, hm, newRow, zeroValue, hi3, hz, Lf.enc]
  · have := Var.alloc w (Builtin.zeroCells z.cells m).toList e
    simpa using this
/-- A string that is ranged over. -/
theorem rangeStr_i {t : TypeId} [h : StrTy P t] {s : ByteArray} {K : Addr → World → Prop} (hK : ∀ r w', Ext w w' → w.heap.size ≤ r → w'.heap[r]? = some (.stringIter s 0) → K (at_ r 0) w') : semS P (Instr.range t (.string s)) (.one .adr) K w := by
  refine ⟨.pointer (some (at_ w.heap.size 0)), w.alloc (.stringIter s 0), ?_, hK _ _ (Ext.alloc _ _) (Nat.le_refl _) (heap_alloc_new w _)⟩
  simp [Instr.range, run_underlying h.und]
theorem next_i {t r pos : Nat} {s : ByteArray} {K : Nxt (World → Prop)} (h : w.heap[r]? = some (.stringIter s pos)) (h1 : s.size ≤ pos → K.fin w) (h2 : pos < s.size → K.more (pos : Int) ((Utf8.decode s pos).1 : Int) (w.putObj r (.stringIter s (pos + (Utf8.decode s pos).2)))) :
    semS P (Instr.next (.pointer (some (at_ r 0))) true t) .nxt K w := by
  have hg : (getObj r).run P w = .ok (.stringIter s pos) w := by simp [getObj, Sem.run, h]
  have hs : ∀ o, (setObj r o).run P w = .ok () (w.putObj r o) := fun o => by simp [setObj, Sem.run, h, World.putObj]
  by_cases hp : pos < s.size
  · refine ⟨.tuple #[.bool true, .int .i64 (pos : Int), .int .i32 ((Utf8.decode s pos).1 : Int)], _, ?_, .inr ⟨_, _, rfl, h2 hp⟩⟩
    simp only [Instr.next, Sem.run_bind, hg, Result.andThen_ok, hp, if_true, hs, Sem.run_pure, goInt]
  · refine ⟨.tuple #[.bool false], w, ?_, .inl ⟨rfl, h1 (by omega)⟩⟩
    simp only [Instr.next, Sem.run_bind, hg, Result.andThen_ok, hp, if_false, Sem.run_pure]
/-- A call of a function value that is a function of the program. -/
theorem callFn_i {gf : FuncId} {fn : Func} {args : Array Value} {ts : List Ty} {K : curTs ts (World → Prop)} (hf : P.funcs[gf]? = some fn) (hn : (fn.name == "runtime.NumGoroutine") = false) (hb : fn.body.isNone = false) (h : callS P gf args ts K w) :
    callY P (callSem (.func (.func gf) #[] #[]) args) ts K w := by
  refine .inl ⟨gf, args, ?_, h⟩
  simp [callSem, Deferred.ofValue, invoke, run_callFunc_body hf hn hb]
theorem decode_lo {s : ByteArray} {pos : Nat} {b : UInt8} (hb : s.toList[pos]? = some b) (h : b.toNat < 128) : Utf8.decode s pos = (b.toNat, 1) := by
  have : s.get! pos = b := by
    rw [ByteArray.toList_eq] at hb
    obtain ⟨d⟩ := s
    simp at hb
    show d[pos]! = b
    rw [Array.getElem!_eq_getD, Array.getD_eq_getD_getElem?, hb]; rfl
  simp only [Utf8.decode, Nat.add_zero, this]
  rw [if_pos (by omega)]
theorem decode_hi {s : ByteArray} {pos : Nat} {b : UInt8} (hb : s.toList[pos]? = some b) (h : 128 ≤ b.toNat) : 128 ≤ (Utf8.decode s pos).1 := by
  have : s.get! pos = b := by
    rw [ByteArray.toList_eq] at hb
    obtain ⟨d⟩ := s
    simp at hb
    show d[pos]! = b
    rw [Array.getElem!_eq_getD, Array.getD_eq_getD_getElem?, hb]; rfl
  simp only [Utf8.decode, Nat.add_zero, this, Utf8.runeError]
  rw [if_neg (by omega)]
  repeat' split
  all_goals (first | decide | (rename_i hx; simp only; omega) | (rename_i hx; simp only [Bool.and_eq_true, decide_eq_true_eq] at hx; omega))
end
end Go.Eng
