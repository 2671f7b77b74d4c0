/- What is read of an argument, as plain facts: structs, arrays, slices of these. -/
import Derived.Test.YteopoodhclljjaaGreatDoorRowLib
import Derived.Test.YteopoodhclljjaaGreatDoorLibEq
set_option linter.unusedSimpArgs false
set_option linter.unusedVariables false
namespace Go.Eng
open Go Go.ChangeShapes Go.WideShapes Go.ChangeAt Go.RowKit

def OkL : Lf → Value → Prop
  | .int k, v => ∃ n, v = .int k n ∧ (Lit.int k n).wf = true
  | .bool, v => ∃ b, v = .bool b
  | .str, v => ∃ s, v = .string s ∧ s.size ≤ maxLen
  | _, _ => False
def KindsW : List Lf → List Value → Prop
  | [], [] => True
  | l :: ls, v :: vs => OkL l v ∧ KindsW ls vs
  | _, _ => False
theorem KindsW.length : ∀ {ls : List Lf} {vs : List Value}, KindsW ls vs → vs.length = ls.length
  | [], [], _ => rfl
  | l :: ls, v :: vs, h => by simp [KindsW.length h.2]
  | [], _ :: _, h => h.elim
  | _ :: _, [], h => h.elim
theorem KindsW.append : ∀ {l1 l2 : List Lf} {a b : List Value}, KindsW l1 a → KindsW l2 b → KindsW (l1 ++ l2) (a ++ b)
  | [], _, [], _, _, h => h
  | l :: l1, _, v :: a, _, h, h2 => ⟨h.1, KindsW.append h.2 h2⟩
  | [], _, _ :: _, _, h, _ => h.elim
  | _ :: _, _, [], _, h, _ => h.elim
theorem KindsW.one : ∀ {ls : List Lf} {vs : List Value}, KindsW ls vs → ∀ v ∈ vs, v.oneCell' = true
  | [], [], _, v, hv => by cases hv
  | l :: ls, x :: vs, h, v, hv => by
    rcases List.mem_cons.1 hv with rfl | hv
    · have h1 := h.1
      cases l <;> simp only [OkL] at h1
      · obtain ⟨n, rfl, _⟩ := h1; rfl
      · obtain ⟨n, rfl⟩ := h1; rfl
      · obtain ⟨n, rfl, _⟩ := h1; rfl
      all_goals exact h1.elim
    · exact KindsW.one h.2 v hv
  | [], _ :: _, h, _, _ => h.elim
  | _ :: _, [], h, _, _ => h.elim
def flatFs (P : Program) (sub : TypeId → Option (List Lf)) : List Field → Nat → Option (List Lf)
  | [], _ => some []
  | f :: fs, o => match Nat.beq f.offset o, sub f.type with
    | true, some l1 => match Nat.beq (P.cellsOf f.type) l1.length with
      | true => (flatFs P sub fs (o + l1.length)).map (l1 ++ ·)
      | false => none
    | _, _ => none
def repL (n : Nat) (l : List Lf) : List Lf := (List.replicate n l).flatten
def flat (P : Program) : Nat → TypeId → Option (List Lf)
  | 0, _ => none
  | n + 1, t => match leafOf P t with
    | some l => some [l]
    | none => match P.underlying t with
      | some (.struct fs) => match flatFs P (flat P n) fs.toList 0 with
        | some ls => match Nat.beq (P.cellsOf t) ls.length with
          | true => some ls
          | false => none
        | none => none
      | some (.array k e) => match flat P n e with
        | some l => match Nat.beq (P.cellsOf e) l.length, Nat.beq (P.cellsOf t) (repL k l).length with
          | true, true => some (repL k l)
          | _, _ => none
        | none => none
      | _ => none
section
variable {H : Type} {enc : TypeId × Value → H} {P : Program} {W : World} {base : Nat} {sp : Nat → Bool} {held : Bool}
theorem flatFs_trod {sub : TypeId → Option (List Lf)} {n : Nat} {cs : List Value} (hsub : ∀ t ls, sub t = some ls → ∀ (cs : List Value) (x : DataW H × List MemPlace), DataW.trod enc P W base sp held n t cs = some x → KindsW ls cs) :
    ∀ (fs : List Field) (o : Nat) (ls : List Lf), flatFs P sub fs o = some ls → cs.length = o + ls.length → (∀ f ∈ fs, ∃ y, DataW.trod enc P W base sp held n f.type ((cs.drop f.offset).take (P.cellsOf f.type)) = some y) → KindsW ls (cs.drop o)
  | [], o, ls, h, hl, _ => by
    simp [flatFs] at h; subst h
    rw [List.drop_of_length_le (by simp at hl; omega)]; trivial
  | f :: fs, o, ls, h, hl, hf => by
    unfold flatFs at h
    split at h
    · rename_i l1 ho hl1
      have ho' : f.offset = o := Nat.eq_of_beq_eq_true ho
      split at h
      · rename_i hb
        have hb' := Nat.eq_of_beq_eq_true hb
        cases hr : flatFs P sub fs (o + l1.length) with
        | none => simp [hr] at h
        | some r =>
          simp [hr] at h
          subst h
          obtain ⟨y, hy⟩ := hf f (by simp)
          have k1 := hsub _ _ hl1 _ _ hy
          have k2 := flatFs_trod hsub fs _ r hr (by simp at hl; omega) (fun f hm => hf f (by simp [hm]))
          have := KindsW.append k1 k2
          rw [ho', hb'] at this
          rwa [← List.drop_drop, List.take_append_drop] at this
      · cases h
    · cases h
theorem rep_trod {l : List Lf} {m : Nat} : ∀ (k : Nat) (cs : List Value), l.length = m → cs.length = k * m → (∀ i, i < k → KindsW l ((cs.drop (i * m)).take m)) → KindsW (repL k l) cs
  | 0, cs, _, hl, _ => by
    have : cs = [] := List.eq_nil_of_length_eq_zero (by simpa using hl)
    subst this; simp [repL, KindsW]
  | k + 1, cs, hm, hl, h => by
    have h0 := h 0 (by omega)
    simp only [Nat.zero_mul, List.drop_zero] at h0
    have ih := rep_trod k (cs.drop m) hm (by rw [List.length_drop, hl, Nat.add_mul]; omega) fun i hi => by
      have := h (i + 1) (by omega)
      rwa [List.drop_drop, show m + i * m = (i + 1) * m by rw [Nat.add_mul]; omega]
    have := KindsW.append h0 ih
    rw [List.take_append_drop] at this
    simpa [repL, List.replicate_succ] using this
theorem flat_trod : ∀ (n : Nat) (t : TypeId) (ls : List Lf), flat P n t = some ls → ∀ (fuel : Nat) (cs : List Value) (x : DataW H × List MemPlace), DataW.trod enc P W base sp held fuel t cs = some x → KindsW ls cs
  | 0, _, _, h, _, _, _, _ => by simp [flat] at h
  | n + 1, t, ls, h, fuel, cs, x, hx => by
    unfold flat at h
    split at h
    · rename_i l hl
      simp at h; subst h
      have hq := leafOf_eq hl
      cases l <;> simp only [LeafEq] at hq
      · obtain ⟨m, rfl, _, hw⟩ := DataW.trod_int hq hx; exact ⟨⟨m, rfl, hw⟩, trivial⟩
      · obtain ⟨m, rfl, _⟩ := DataW.trod_bool hq hx; exact ⟨⟨m, rfl⟩, trivial⟩
      · obtain ⟨m, rfl, _, hw⟩ := DataW.trod_string hq hx; exact ⟨⟨m, rfl, hw⟩, trivial⟩
      all_goals exact hq.elim
    · split at h
      · rename_i fs hu
        split at h
        · rename_i ls' hf
          split at h
          · rename_i hb
            simp at h; subst h
            obtain ⟨xs, m, rfl, _, hcl, hxl, hall⟩ := DataW.trod_struct hu hx
            have := flatFs_trod (cs := cs) (fun t ls ht cs x h => flat_trod n t ls ht m cs x h) fs.toList 0 ls' hf (by rw [hcl, Nat.eq_of_beq_eq_true hb]; omega) fun f hm => by
              obtain ⟨i, hi, rfl⟩ := List.getElem_of_mem hm
              have hi' : i < fs.size := by simpa using hi
              have := hall i fs[i] (by simp [hi'])
              refine ⟨xs[i]'(by omega), ?_⟩
              simpa [hxl, hi'] using this
            simpa using this
          · cases h
        · cases h
      · rename_i k e hu
        split at h
        · rename_i l hl
          split at h
          · rename_i hb1 hb2
            simp at h; subst h
            obtain ⟨xs, m, rfl, _, hcl, hxl, hall⟩ := DataW.trod_array hu hx
            have hb1' := Nat.eq_of_beq_eq_true hb1
            have hb2' := Nat.eq_of_beq_eq_true hb2
            refine rep_trod k cs hb1'.symm ?_ fun i hi => ?_
            · rw [hcl, hb2', hb1']; simp [repL]
            · have := hall i hi
              exact flat_trod n e l hl m _ (xs[i]'(by omega)) (by rw [this]; simp [hxl, hi])
          · cases h
        · cases h
      · cases h
theorem agg_of_trod {n : Nat} {t : TypeId} {ls : List Lf} {r : Reach} {b0 : Nat} {v : Value} {d : DataW H} {ps : List MemPlace} (hf : flat P n t = some ls) (ha : (P.underlying t).any (fun | .struct _ => true | .array _ _ => true | _ => false) = true)
    (hv : Value.okWide P W r b0 t v) (h : DataW.Trod enc P W base sp held t v d ps) : ∃ cs, v = .agg cs.toArray ∧ KindsW ls cs := by
  obtain ⟨fuel, hx⟩ := h
  have hk := flat_trod n t ls hf fuel _ _ hx
  unfold Value.okWide at hv
  cases hu : P.underlying t with
  | none => simp [hu] at ha
  | some d =>
    rw [hu] at hv
    cases d <;> simp [hu] at ha
    · obtain ⟨cs, rfl, _⟩ := hv; exact ⟨cs.toList, by simp, hk⟩
    · obtain ⟨cs, rfl, _⟩ := hv; exact ⟨cs.toList, by simp, hk⟩
/-! ### slices of such -/
theorem flatten_get {α : Type} {m : Nat} : ∀ {css : List (List α)} (_ : ∀ c ∈ css, c.length = m) (i : Nat) (v : α), css.flatten[i]? = some v → ∃ q r c, i = q * m + r ∧ r < m ∧ css[q]? = some c ∧ c[r]? = some v
  | [], _, i, v, h => by simp at h
  | c :: css, hm, i, v, h => by
    have hc := hm c (by simp)
    by_cases hi : i < m
    · refine ⟨0, i, c, by omega, hi, rfl, ?_⟩
      rwa [List.flatten_cons, List.getElem?_append_left (by omega)] at h
    · rw [List.flatten_cons, List.getElem?_append_right (by omega), hc] at h
      obtain ⟨q, r, c', e, hr, h1, h2⟩ := flatten_get (fun c hm' => hm c (by simp [hm'])) (i - m) v h
      refine ⟨q + 1, r, c', ?_, hr, h1, h2⟩
      rw [Nat.add_mul]; omega
theorem flatten_len {α : Type} {m : Nat} : ∀ {css : List (List α)}, (∀ c ∈ css, c.length = m) → css.flatten.length = css.length * m
  | [], _ => by simp
  | c :: css, h => by
    have := flatten_len (css := css) fun c hm => h c (by simp [hm])
    rw [List.flatten_cons, List.length_append, h c (by simp), this, List.length_cons, Nat.add_mul]; omega
/-- A slice that came in: its elements' cells, one list for each. -/
structure Rds (W : World) (s : Sl) (sz : Nat) (css : List (List Value)) : Prop where
  rd : Rd W s sz css.flatten
  len : css.length = s.len
  each : ∀ c ∈ css, c.length = sz
theorem slice_of_trod {n : Nat} {t e : TypeId} {ls : List Lf} {a : Option Addr} {len cap : Nat} {d : DataW H} {ps : List MemPlace} (ht : P.underlying t = some (.slice e)) (hf : flat P n e = some ls) (hc : P.cellsOf e = ls.length)
    (h : DataW.Trod enc P W base sp held t (.slice a len cap) d ps) :
    ∃ css : List (List Value), Rds W ⟨a, len, cap⟩ ls.length css ∧ (∀ c ∈ css, KindsW ls c) ∧ cap ≤ 9223372036854775807 ∧ (css = [] ∨ ∃ zs rest : List (DataW H), d = .slice zs rest ∧ zs.length = css.length) := by
  obtain ⟨fuel, hx⟩ := h
  rcases DataW.trod_slice ht hx with ⟨hcs, _⟩ | ⟨x, l, c, elems, rest, m, _, hcs, hxx, hb, hl, hm, hlen, hel, _, _⟩
  · simp [Value.cells] at hcs
    obtain ⟨rfl, rfl, rfl⟩ := hcs
    exact ⟨[], ⟨Rd.nilSl _ _, rfl, fun c h => by cases h⟩, (fun c h => by cases h), by omega, .inl rfl⟩
  · simp [Value.cells] at hcs
    obtain ⟨rfl, rfl, rfl⟩ := hcs
    have key : ∀ i, i < len → ∃ c, W.cells? base (x.add (i * P.cellsOf e)) (P.cellsOf e) = some c ∧ KindsW ls c := fun i hi => by
      have h1 := hel i hi
      rw [List.getElem?_eq_getElem (by omega)] at h1
      cases hcl : W.cells? base (x.add (i * P.cellsOf e)) (P.cellsOf e) with
      | none => rw [hcl] at h1; simp at h1
      | some c => rw [hcl] at h1; exact ⟨c, rfl, flat_trod n e ls hf m c _ h1⟩
    have ex : ∃ f : Nat → List Value, ∀ i, i < len → W.cells? base (x.add (i * P.cellsOf e)) (P.cellsOf e) = some (f i) ∧ KindsW ls (f i) := by
      refine ⟨fun i => (W.cells? base (x.add (i * P.cellsOf e)) (P.cellsOf e)).getD [], fun i hi => ?_⟩
      obtain ⟨c, h1, h2⟩ := key i hi
      simp only [h1, Option.getD_some]
      exact ⟨trivial, h2⟩
    obtain ⟨f, hfk⟩ := ex
    have hk : ∀ c ∈ (List.range len).map f, KindsW ls c := fun c hm => by
      obtain ⟨i, hi, rfl⟩ := List.mem_map.1 hm
      exact (hfk i (by simpa using hi)).2
    have hl' : ∀ c ∈ (List.range len).map f, c.length = ls.length := fun c hm => (hk c hm).length
    refine ⟨(List.range len).map f, ⟨⟨?_, hl, (fun h => by cases h), ?_⟩, by simp, hl'⟩, hk, by unfold maxLen at hm; omega, .inr ⟨_, _, (Prod.mk.inj hxx).1, by simp [hlen]⟩⟩
    · rw [flatten_len hl']; simp
    · rintro y ⟨rfl⟩ i v hv
      obtain ⟨q, r, c, rfl, hr, h1, h2⟩ := flatten_get hl' i v hv
      have hq : q < len := by
        have := (List.getElem?_eq_some_iff.1 h1).1
        simpa using this
      have h3 : f q = c := by simpa [hq] using h1
      obtain ⟨_, _, h5⟩ := World.cells?_some (hfk q hq).1
      have := h5 r (by omega)
      rw [h3, h2, add_add', hc] at this
      exact this
/-- The cells of element i. -/
theorem Rds.elem {w : World} {s : Sl} {sz : Nat} {css : List (List Value)} (h : Rds w s sz css) {a : Addr} (ha : s.a = some a) {i : Nat} {c : List Value} (hc : css[i]? = some c) : ∀ j v, c[j]? = some v → w.cell? ((a.add (i * sz)).add j) = some v := by
  intro j v hv
  rw [add_add']
  refine h.rd.cells a ha _ v ?_
  have key : ∀ (css : List (List Value)), (∀ c ∈ css, c.length = sz) → ∀ i, css[i]? = some c → css.flatten[i * sz + j]? = some v := by
    intro css
    induction css with
    | nil => intro _ i h; simp at h
    | cons x css ih =>
      intro hm i hi
      cases i with
      | zero =>
        simp at hi; subst hi
        have hj := (List.getElem?_eq_some_iff.1 hv).1
        simp only [Nat.zero_mul, Nat.zero_add, List.flatten_cons]
        rw [List.getElem?_append_left hj]; exact hv
      | succ i =>
        have hx := hm x (by simp)
        simp only [List.flatten_cons]
        rw [List.getElem?_append_right (by rw [Nat.add_mul]; omega)]
        have := ih (fun c hm' => hm c (by simp [hm'])) i (by simpa using hi)
        rwa [show (i + 1) * sz + j - x.length = i * sz + j by rw [Nat.add_mul]; omega]
  exact key css h.each i hc
theorem Rds.ext {w w' : World} {s : Sl} {sz : Nat} {css : List (List Value)} (h : Rds w s sz css) (hf : Ext w w') : Rds w' s sz css := ⟨h.rd.ext hf, h.len, h.each⟩
theorem Rds.some {w : World} {s : Sl} {sz : Nat} {css : List (List Value)} (h : Rds w s sz css) (hl : 0 < s.len) : ∃ a, s.a = some a := h.rd.some hl
end
end Go.Eng
