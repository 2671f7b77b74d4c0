/- The library of the second stage: maps whose keys are complex numbers made of whole numbers. -/
import Derived.Test.YteopoodhclljjaaGreatDoorLib7
import Derived.Test.YteopoodhclljjaaGreatDoorFlt
set_option linter.unusedSimpArgs false
set_option linter.unusedVariables false
namespace Go.Eng
open Go
/-- A key: two whole numbers. -/
structure CK where
  i : Nat
  l : Nat
  hi : i < 2 ^ 53
  hl : l < 2 ^ 53
theorem CK.ext' {a b : CK} (h1 : a.i = b.i) (h2 : a.l = b.l) : a = b := by cases a; cases b; simp_all
instance : DecidableEq CK := fun a b => if h : a.i = b.i ∧ a.l = b.l then .isTrue (CK.ext' h.1 h.2) else .isFalse fun e => h ⟨by rw [e], by rw [e]⟩
def kCx (k : CK) : Value := .complex .f64 (fw k.i) (fw k.l)
theorem floatEq_fw {a b : Nat} (ha : a < 2 ^ 53) (hb : b < 2 ^ 53) : Op.floatEq .f64 (fw a) (fw b) = decide (a = b) := fcEq_W (isW_fw ha) (isW_fw hb)
theorem kCx_inj {a b : CK} (h : kCx a = kCx b) : a = b := by
  simp only [kCx, Value.complex.injEq, true_and] at h
  exact CK.ext' (fw_inj a.hi b.hi h.1) (fw_inj a.hl b.hl h.2)
section
variable {P : Program} {w : World} {kt : TypeId} {c : FloatKind}
theorem run_equalC (hd : P.underlying kt = some (.complex c)) (a b : CK) : (Op.equal kt (kCx a) (kCx b)).run P w = .ok (decide (a = b)) w := by
  have e : (Op.floatEq .f64 (fw a.i) (fw b.i) && Op.floatEq .f64 (fw a.l) (fw b.l)) = decide (a = b) := by
    rw [floatEq_fw a.hi b.hi, floatEq_fw a.hl b.hl]
    by_cases h : a = b
    · subst h; simp
    · rw [decide_eq_false h]
      by_cases h1 : a.i = b.i
      · by_cases h2 : a.l = b.l
        · exact absurd (CK.ext' h1 h2) h
        · simp [h2]
      · simp [h1]
  show (Op.equalIn (9999 + 1) kt (kCx a) (kCx b)).run P w = _
  unfold Op.equalIn
  simp only [Sem.run_bind, run_underlying hd, Result.andThen_ok, kCx]
  simp [e]
theorem run_checkKeyC (hd : P.underlying kt = some (.complex c)) (k : CK) (e : Bool) : (Instr.checkKey e 10000 kt (kCx k)).run P w = .ok () w := by
  show (Instr.checkKey e (9999 + 1) kt (kCx k)).run P w = _
  unfold Instr.checkKey
  simp only [Sem.run_bind, run_underlying hd, Result.andThen_ok, kCx]
  rfl
theorem findAskC (hd : P.underlying kt = some (.complex c)) (k : CK) : ∀ (es : List MapEntry) (i : Nat), (∀ e ∈ es, ∃ x, e.key = kCx x) →
    ((Instr.findAsking kt (kCx k) es i).run P w = .ok none w ∧ ∀ e ∈ es, e.key ≠ kCx k) ∨ ∃ j e, (Instr.findAsking kt (kCx k) es i).run P w = .ok (some (i + j, e.val)) w ∧ es[j]? = some e ∧ e.key = kCx k
  | [], i, _ => .inl ⟨by simp [Instr.findAsking], fun e he => by cases he⟩
  | e :: es, i, h => by
    obtain ⟨x, hx⟩ := h e (by simp)
    have heq := run_equalC (P := P) (w := w) hd k x
    rw [← hx] at heq
    by_cases hk : k = x
    · subst hk
      refine .inr ⟨0, e, ?_, rfl, hx⟩
      unfold Instr.findAsking
      simp [heq]
    · have hne : e.key ≠ kCx k := fun q => hk (kCx_inj (hx.symm.trans q)).symm
      have hrun : (Instr.findAsking kt (kCx k) (e :: es) i).run P w = (Instr.findAsking kt (kCx k) es (i + 1)).run P w := by
        conv => lhs; unfold Instr.findAsking
        simp [heq, hk]
      rcases findAskC hd k es (i + 1) (fun y hy => h y (by simp [hy])) with ⟨h1, h2⟩ | ⟨j, e', h1, h2, h3⟩
      · refine .inl ⟨hrun.trans h1, fun y hy => ?_⟩
        rcases List.mem_cons.1 hy with rfl | hy
        · exact hne
        · exact h2 y hy
      · refine .inr ⟨j + 1, e', ?_, by simpa using h2, h3⟩
        rw [hrun, h1, show i + 1 + j = i + (j + 1) by omega]
theorem findKeyC (hd : P.underlying kt = some (.complex c)) (k : CK) (es : List MapEntry) (h : ∀ e ∈ es, ∃ x, e.key = kCx x) :
    ((Instr.findKey kt (kCx k) es).run P w = .ok none w ∧ ∀ e ∈ es, e.key ≠ kCx k) ∨ ∃ j e, (Instr.findKey kt (kCx k) es).run P w = .ok (some (j, e.val)) w ∧ es[j]? = some e ∧ e.key = kCx k := by
  cases es with
  | nil => exact .inl ⟨by simp [Instr.findKey, run_underlying hd, Instr.findNow], fun e he => by cases he⟩
  | cons e es =>
    have hf : Instr.findNow (.complex c) (kCx k) (e :: es) 0 = none := by
      obtain ⟨x, hx⟩ := h e (by simp)
      unfold Instr.findNow
      rw [hx]; rfl
    have hrun : (Instr.findKey kt (kCx k) (e :: es)).run P w = (Instr.findAsking kt (kCx k) (e :: es) 0).run P w := by
      simp [Instr.findKey, run_underlying hd, hf]
    rcases findAskC (w := w) hd k (e :: es) 0 h with ⟨h1, h2⟩ | ⟨j, e', h1, h2, h3⟩
    · exact .inl ⟨hrun.trans h1, h2⟩
    · exact .inr ⟨j, e', by rw [hrun, h1, Nat.zero_add], h2, h3⟩
end
section
variable {P : Program} {w : World} {ν : Type} {ev : ν → Value} {t kt et : TypeId} {c : FloatKind} {z : Value} {m : Nat} {F : CK → Option ν}
theorem MapAt.findC (hd : P.underlying kt = some (.complex c)) {es : Array MapEntry} {l : List (CK × ν)} (h : es.toList.map (fun e => (e.key, e.val)) = l.map (fun x => (kCx x.1, ev x.2))) (hF : ∀ k v, F k = some v ↔ (k, v) ∈ l) (k : CK) :
    ((Instr.findKey kt (kCx k) es.toList).run P w = .ok none w ∧ F k = none ∧ ∀ x ∈ l, x.1 ≠ k) ∨ ∃ (j : Nat) (e : MapEntry) (v : ν), (Instr.findKey kt (kCx k) es.toList).run P w = .ok (some (j, e.val)) w ∧ es.toList[j]? = some e ∧ e.key = kCx k ∧ e.val = ev v ∧ l[j]? = some (k, v) ∧ F k = some v := by
  have hks : ∀ x ∈ es.toList, ∃ y, x.key = kCx y := fun e he => by
    obtain ⟨j, hj⟩ := List.getElem?_of_mem he
    obtain ⟨x, _, h2, _⟩ := pairs_at h hj
    exact ⟨_, h2⟩
  rcases findKeyC (w := w) hd k es.toList hks with ⟨h1, h2⟩ | ⟨j, e, h1, h2, h3⟩
  · have hn : ∀ x ∈ l, x.1 ≠ k := fun x hx hxk => by
      obtain ⟨e, he, h3, _⟩ := pairs_mem h hx
      exact h2 e he (by rw [h3, hxk])
    refine .inl ⟨h1, ?_, hn⟩
    cases hv : F k with
    | none => rfl
    | some v => exact absurd rfl (hn _ ((hF k v).1 hv))
  · obtain ⟨⟨k', v⟩, hx, h4, h5⟩ := pairs_at h h2
    have : k' = k := kCx_inj (h4.symm.trans h3)
    subst this
    exact .inr ⟨j, e, v, h1, h2, h3, h5, hx, (hF _ _).2 (List.mem_of_getElem? hx)⟩
theorem run_lookupC [ht : MapTy P t kt et (.complex c) z] (h : MapAt w kCx ev m F) (k : CK) : (Instr.lookup t (.map (some m)) (kCx k) false).run P w = .ok ((F k).elim z ev) w := by
  obtain ⟨es, cl, l, h1, h2, h3, h4⟩ := h
  rcases MapAt.findC (P := P) (w := w) ht.key h2 h4 k with ⟨hf, hn, _⟩ | ⟨j, e, v, hf, _, _, hv, _, hF⟩
  · simp [Instr.lookup, run_underlying ht.und, MapKept.run_getObj_map h1, run_checkKeyC ht.key k, hf, hn, ht.run_zero]
  · simp [Instr.lookup, run_underlying ht.und, MapKept.run_getObj_map h1, run_checkKeyC ht.key k, hf, hF, hv]
theorem lookC_i [MapTy P t kt et (.complex c) z] {lf : Lf} (x : lf.T) {k : CK} {kv : Value} {K : lf.T → World → Prop} (h : MapAt w kCx ev m F) (hk : kv = kCx k) (hx : (F k).elim z ev = lf.enc x) (hK : K x w) : semS P (Instr.lookup t (.map (some m)) kv false) (.one lf) K w := by
  subst hk
  exact ⟨_, w, run_lookupC h k, by rw [hx]; exact one_dec hK⟩
theorem lookCQ_i [MapTy P t kt et (.complex c) z] {lf : Lf} (x : lf.T) {k : CK} {kv : Value} {C : World → Prop} {K : lf.T → Prop} (h : ∀ w, C w → MapAt w kCx ev m F) (hk : kv = kCx k) (hx : (F k).elim z ev = lf.enc x) (hK : K x) : semQ P C (Instr.lookup t (.map (some m)) kv false) (.one lf) K := by
  subst hk
  exact ⟨_, fun w hw => run_lookupC (h w hw) k, by rw [hx]; exact one_decQ hK⟩
theorem keyStaysC (k : CK) : (Instr.keyThatStays (kCx k) (kCx k)).run P w = .ok (kCx k) w := by
  simp [Instr.keyThatStays, Instr.sameBits, kCx]
/-- A key that is new to the map. -/
theorem updateC_i [ht : MapTy P t kt et (.complex c) z] {k : CK} {v : ν} {kv vv : Value} {K : World → Prop} (h : MapAt w kCx ev m F) (hkv : kv = kCx k) (hvv : vv = ev v) (hK : ∀ w', Fr (fun i => i = m) w w' → MapAt w' kCx ev m (fun x => if x = k then some v else F x) → K w') :
    semU P (Instr.mapUpdate t (.map (some m)) kv vv) K w := by
  subst hkv; subst hvv
  obtain ⟨es, cl, l, h1, h2, h3, h4⟩ := h
  rcases MapAt.findC (P := P) (w := w) ht.key h2 h4 k with ⟨hf, hn, hl⟩ | ⟨j, e, v0, hf, hj, hek, hv, hlj, hF⟩
  · refine ⟨w.putObj m (.map (es.push { key := kCx k, val := ev v, born := cl }) (cl + 1)), ?_, hK _ (fr_putObj _ _ _) ⟨_, _, l ++ [(k, v)], putObj_at h1, by simp [h2], ?_, ?_⟩⟩
    · simp [Instr.mapUpdate, run_underlying ht.und, MapKept.run_getObj_map h1, run_checkKeyC ht.key k, hf, MapKept.run_setObj_map _ h1, World.putObj]
    · rw [List.map_append, List.nodup_append]
      refine ⟨h3, by simp, ?_⟩
      intro a ha b hb
      obtain ⟨x, hx, rfl⟩ := List.mem_map.1 ha
      simp at hb; subst hb
      exact hl x hx
    · intro k' v'
      simp only [List.mem_append, List.mem_singleton, Prod.mk.injEq]
      by_cases hkk : k' = k
      · subst hkk
        simp only [if_true, Option.some.injEq, true_and]
        constructor
        · intro hvv; exact .inr hvv.symm
        · rintro (hm | hm)
          · exact absurd rfl (hl _ hm)
          · exact hm.symm
      · simp only [hkk, if_false, false_and, or_false]; exact h4 k' v'
  · have hj' : es[j]? = some e := by simpa using hj
    have hjl : j < es.size := (Array.getElem?_eq_some_iff.1 hj').1
    refine ⟨w.putObj m (.map (es.modify j fun e => { e with key := kCx k, val := ev v }) cl), ?_, hK _ (fr_putObj _ _ _) ⟨_, _, l.set j (k, v), putObj_at h1, ?_, ?_, ?_⟩⟩
    · simp [Instr.mapUpdate, run_underlying ht.und, MapKept.run_getObj_map h1, run_checkKeyC ht.key k, hf, hj', hek, keyStaysC, MapKept.run_setObj_map _ h1, World.putObj]
    · rw [List.map_set, ← h2]
      apply List.ext_getElem?
      intro i
      simp only [List.getElem?_map, Array.getElem?_toList, Array.getElem?_modify, List.getElem?_set]
      by_cases hij : j = i
      · subst hij
        simp only [if_true, hj', Option.map_some]
        simp [hjl]
      · simp [hij]
    · rw [List.map_set]
      have : (l.map (·.1)).set j k = l.map (·.1) := by
        apply List.ext_getElem?
        intro i
        rw [List.getElem?_set]
        by_cases hij : j = i
        · subst hij
          obtain ⟨h5, h6⟩ := List.getElem?_eq_some_iff.1 hlj
          simp [h5, h6]
        · simp [hij]
      simp only [this]; exact h3
    · intro k' v'
      by_cases hkk : k' = k
      · subst hkk
        simp only [if_true, Option.some.injEq]
        constructor
        · rintro rfl
          have hl := (List.getElem?_eq_some_iff.1 hlj).1
          exact List.mem_of_getElem? (i := j) (by simp [hl])
        · intro hm
          obtain ⟨i, hi⟩ := List.getElem?_of_mem hm
          rw [List.getElem?_set] at hi
          split at hi
          · split at hi
            · simp at hi; exact hi
            · cases hi
          · rename_i hne
            exact absurd (nodup_at h3 hlj hi) hne
      · simp only [hkk, if_false]
        rw [h4]
        constructor
        · intro hm
          obtain ⟨i, hi⟩ := List.getElem?_of_mem hm
          have hne : j ≠ i := fun h => by subst h; rw [hlj] at hi; simp at hi; exact hkk hi.1.symm
          exact List.mem_of_getElem? (i := i) (by rw [List.getElem?_set_ne hne]; exact hi)
        · intro hm
          obtain ⟨i, hi⟩ := List.getElem?_of_mem hm
          rw [List.getElem?_set] at hi
          split at hi
          · split at hi
            · simp at hi; exact absurd hi.1.symm hkk
            · cases hi
          · exact List.mem_of_getElem? hi
end
end Go.Eng
