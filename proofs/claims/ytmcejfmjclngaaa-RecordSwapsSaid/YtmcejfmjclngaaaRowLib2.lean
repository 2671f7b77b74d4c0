/- What is read of an argument, as plain facts: structs, arrays, slices of these. -/
import Derived.Test.YtmcejfmjclngaaaRowLib
import Derived.Test.YtmcejfmjclngaaaLibEq
set_option linter.unusedSimpArgs false
set_option linter.unusedVariables false
namespace Go.Eng
open Go Go.ChangeShapes Go.WideShapes Go.ChangeAt Go.RowKit

def OkL : Lf → Value → Prop
  | .int k, v => ∃ n, v = .int k n ∧ (Lit.int k n).wf = true
  | .bool, v => ∃ b, v = .bool b
  | .str, v => ∃ s, v = .string s ∧ s.size ≤ maxLen
  | _, _ => False
def KindsW : List Lf → List Value → Prop
  | [], [] => True
  | l :: ls, v :: vs => OkL l v ∧ KindsW ls vs
  | _, _ => False
theorem KindsW.length : ∀ {ls : List Lf} {vs : List Value}, KindsW ls vs → vs.length = ls.length
  | [], [], _ => rfl
  | l :: ls, v :: vs, h => by simp [KindsW.length h.2]
  | [], _ :: _, h => h.elim
  | _ :: _, [], h => h.elim
theorem KindsW.append : ∀ {l1 l2 : List Lf} {a b : List Value}, KindsW l1 a → KindsW l2 b → KindsW (l1 ++ l2) (a ++ b)
  | [], _, [], _, _, h => h
  | l :: l1, _, v :: a, _, h, h2 => ⟨h.1, KindsW.append h.2 h2⟩
  | [], _, _ :: _, _, h, _ => h.elim
  | _ :: _, _, [], _, h, _ => h.elim
theorem KindsW.one : ∀ {ls : List Lf} {vs : List Value}, KindsW ls vs → ∀ v ∈ vs, v.oneCell' = true
  | [], [], _, v, hv => by cases hv
  | l :: ls, x :: vs, h, v, hv => by
    rcases List.mem_cons.1 hv with rfl | hv
    · have h1 := h.1
      cases l <;> simp only [OkL] at h1
      · obtain ⟨n, rfl, _⟩ := h1; rfl
      · obtain ⟨n, rfl⟩ := h1; rfl
      · obtain ⟨n, rfl, _⟩ := h1; rfl
      all_goals exact h1.elim
    · exact KindsW.one h.2 v hv
  | [], _ :: _, h, _, _ => h.elim
  | _ :: _, [], h, _, _ => h.elim
def flatFs (P : Program) (sub : TypeId → Option (List Lf)) : List Field → Nat → Option (List Lf)
  | [], _ => some []
  | f :: fs, o => match Nat.beq f.offset o, sub f.type with
    | true, some l1 => match Nat.beq (P.cellsOf f.type) l1.length with
      | true => (flatFs P sub fs (o + l1.length)).map (l1 ++ ·)
      | false => none
    | _, _ => none
def repL (n : Nat) (l : List Lf) : List Lf := (List.replicate n l).flatten
def flat (P : Program) : Nat → TypeId → Option (List Lf)
  | 0, _ => none
  | n + 1, t => match leafOf P t with
    | some l => some [l]
    | none => match P.underlying t with
      | some (.struct fs) => match flatFs P (flat P n) fs.toList 0 with
        | some ls => match Nat.beq (P.cellsOf t) ls.length with
          | true => some ls
          | false => none
        | none => none
      | some (.array k e) => match flat P n e with
        | some l => match Nat.beq (P.cellsOf e) l.length, Nat.beq (P.cellsOf t) (repL k l).length with
          | true, true => some (repL k l)
          | _, _ => none
        | none => none
      | _ => none
section
variable {H : Type} {enc : TypeId × Value → H} {P : Program} {W : World} {base : Nat} {sp : Nat → Bool} {held : Bool}
theorem flatFs_trod {sub : TypeId → Option (List Lf)} {n : Nat} {cs : List Value} (hsub : ∀ t ls, sub t = some ls → ∀ (cs : List Value) (x : DataW H × List MemPlace), DataW.trod enc P W base sp held n t cs = some x → KindsW ls cs) :
    ∀ (fs : List Field) (o : Nat) (ls : List Lf), flatFs P sub fs o = some ls → cs.length = o + ls.length → (∀ f ∈ fs, ∃ y, DataW.trod enc P W base sp held n f.type ((cs.drop f.offset).take (P.cellsOf f.type)) = some y) → KindsW ls (cs.drop o)
  | [], o, ls, h, hl, _ => by
    simp [flatFs] at h; subst h
    rw [List.drop_of_length_le (by simp at hl; omega)]; trivial
  | f :: fs, o, ls, h, hl, hf => by
    unfold flatFs at h
    split at h
    · rename_i l1 ho hl1
      have ho' : f.offset = o := Nat.eq_of_beq_eq_true ho
      split at h
      · rename_i hb
        have hb' := Nat.eq_of_beq_eq_true hb
        cases hr : flatFs P sub fs (o + l1.length) with
        | none => simp [hr] at h
        | some r =>
          simp [hr] at h
          subst h
          obtain ⟨y, hy⟩ := hf f (by simp)
          have k1 := hsub _ _ hl1 _ _ hy
          have k2 := flatFs_trod hsub fs _ r hr (by simp at hl; omega) (fun f hm => hf f (by simp [hm]))
          have := KindsW.append k1 k2
          rw [ho', hb'] at this
          rwa [← List.drop_drop, List.take_append_drop] at this
      · cases h
    · cases h
theorem rep_trod {l : List Lf} {m : Nat} : ∀ (k : Nat) (cs : List Value), l.length = m → cs.length = k * m → (∀ i, i < k → KindsW l ((cs.drop (i * m)).take m)) → KindsW (repL k l) cs
  | 0, cs, _, hl, _ => by
    have : cs = [] := List.eq_nil_of_length_eq_zero (by simpa using hl)
    subst this; simp [repL, KindsW]
  | k + 1, cs, hm, hl, h => by
    have h0 := h 0 (by omega)
    simp only [Nat.zero_mul, List.drop_zero] at h0
    have ih := rep_trod k (cs.drop m) hm (by rw [List.length_drop, hl, Nat.add_mul]; omega) fun i hi => by
      have := h (i + 1) (by omega)
      rwa [List.drop_drop, show m + i * m = (i + 1) * m by rw [Nat.add_mul]; omega]
    have := KindsW.append h0 ih
    rw [List.take_append_drop] at this
    simpa [repL, List.replicate_succ] using this
theorem flat_trod : ∀ (n : Nat) (t : TypeId) (ls : List Lf), flat P n t = some ls → ∀ (fuel : Nat) (cs : List Value) (x : DataW H × List MemPlace), DataW.trod enc P W base sp held fuel t cs = some x → KindsW ls cs
  | 0, _, _, h, _, _, _, _ => by simp [flat] at h
  | n + 1, t, ls, h, fuel, cs, x, hx => by
    unfold flat at h
    split at h
    · rename_i l hl
      simp at h; subst h
      have hq := leafOf_eq hl
      cases l <;> simp only [LeafEq] at hq
      · obtain ⟨m, rfl, _, hw⟩ := DataW.trod_int hq hx; exact ⟨⟨m, rfl, hw⟩, trivial⟩
      · obtain ⟨m, rfl, _⟩ := DataW.trod_bool hq hx; exact ⟨⟨m, rfl⟩, trivial⟩
      · obtain ⟨m, rfl, _, hw⟩ := DataW.trod_string hq hx; exact ⟨⟨m, rfl, hw⟩, trivial⟩
      all_goals exact hq.elim
    · split at h
      · rename_i fs hu
        split at h
        · rename_i ls' hf
          split at h
          · rename_i hb
            simp at h; subst h
            obtain ⟨xs, m, rfl, _, hcl, hxl, hall⟩ := DataW.trod_struct hu hx
            have := flatFs_trod (cs := cs) (fun t ls ht cs x h => flat_trod n t ls ht m cs x h) fs.toList 0 ls' hf (by rw [hcl, Nat.eq_of_beq_eq_true hb]; omega) fun f hm => by
              obtain ⟨i, hi, rfl⟩ := List.getElem_of_mem hm
              have hi' : i < fs.size := by simpa using hi
              have := hall i fs[i] (by simp [hi'])
              refine ⟨xs[i]'(by omega), ?_⟩
              simpa [hxl, hi'] using this
            simpa using this
          · cases h
        · cases h
      · rename_i k e hu
        split at h
        · rename_i l hl
          split at h
          · rename_i hb1 hb2
            simp at h; subst h
            obtain ⟨xs, m, rfl, _, hcl, hxl, hall⟩ := DataW.trod_array hu hx
            have hb1' := Nat.eq_of_beq_eq_true hb1
            have hb2' := Nat.eq_of_beq_eq_true hb2
            refine rep_trod k cs hb1'.symm ?_ fun i hi => ?_
            · rw [hcl, hb2', hb1']; simp [repL]
            · have := hall i hi
              exact flat_trod n e l hl m _ (xs[i]'(by omega)) (by rw [this]; simp [hxl, hi])
          · cases h
        · cases h
      · cases h
theorem agg_of_trod {n : Nat} {t : TypeId} {ls : List Lf} {r : Reach} {b0 : Nat} {v : Value} {d : DataW H} {ps : List MemPlace} (hf : flat P n t = some ls) (ha : (P.underlying t).any (fun | .struct _ => true | .array _ _ => true | _ => false) = true)
    (hv : Value.okWide P W r b0 t v) (h : DataW.Trod enc P W base sp held t v d ps) : ∃ cs, v = .agg cs.toArray ∧ KindsW ls cs := by
  obtain ⟨fuel, hx⟩ := h
  have hk := flat_trod n t ls hf fuel _ _ hx
  unfold Value.okWide at hv
  cases hu : P.underlying t with
  | none => simp [hu] at ha
  | some d =>
    rw [hu] at hv
    cases d <;> simp [hu] at ha
    · obtain ⟨cs, rfl, _⟩ := hv; exact ⟨cs.toList, by simp, hk⟩
    · obtain ⟨cs, rfl, _⟩ := hv; exact ⟨cs.toList, by simp, hk⟩
end
end Go.Eng
