/- The library of the second stage: two structs compared. -/
import Derived.Test.YteopoodhclljjaaGreatDoorLib3
import Derived.Laws.StructEq
set_option linter.unusedSimpArgs false
set_option linter.unusedVariables false
namespace Go.Eng
open Go

def valueEq : Value → Value → Bool
  | .int _ a, .int _ b => a == b
  | .bool a, .bool b => a == b
  | .string a, .string b => a.toList == b.toList
  | _, _ => false
def eqCells : List Value → List Value → Bool
  | [], [] => true
  | x :: xs, y :: ys => valueEq x y && eqCells xs ys
  | _, _ => false
/-- The cells have these kinds. -/
def Kinds : List Lf → List Value → Prop
  | [], [] => True
  | l :: ls, v :: vs => (∃ x : l.T, v = l.enc x) ∧ Kinds ls vs
  | _, _ => False
theorem Kinds.length : ∀ {ls : List Lf} {vs : List Value}, Kinds ls vs → vs.length = ls.length
  | [], [], _ => rfl
  | l :: ls, v :: vs, h => by simp [Kinds.length h.2]
  | [], _ :: _, h => h.elim
  | _ :: _, [], h => h.elim
theorem Kinds.split : ∀ {l1 l2 : List Lf} {vs : List Value}, Kinds (l1 ++ l2) vs → Kinds l1 (vs.take l1.length) ∧ Kinds l2 (vs.drop l1.length)
  | [], _, vs, h => by simpa [Kinds] using h
  | l :: l1, l2, v :: vs, h => by
    have := Kinds.split (l1 := l1) h.2
    exact ⟨⟨h.1, this.1⟩, this.2⟩
  | _ :: _, _, [], h => h.elim
theorem eqCells_append : ∀ {a b c d : List Value}, a.length = c.length → eqCells (a ++ b) (c ++ d) = (eqCells a c && eqCells b d)
  | [], b, [], d, _ => by simp [eqCells]
  | x :: a, b, y :: c, d, h => by simp [eqCells, eqCells_append (a := a) (c := c) (by simpa using h), Bool.and_assoc]
  | [], _, _ :: _, _, h => by simp at h
  | _ :: _, _, [], _, h => by simp at h
class EqAgg (P : Program) (t : TypeId) (ls : outParam (List Lf)) : Prop where
  eq : ∀ (d : Nat) (w : World) (xs ys : List Value), Kinds ls xs → Kinds ls ys → (Op.equalIn (d + 20) t (.agg xs.toArray) (.agg ys.toArray)).run P w = .ok (eqCells xs ys) w
  guard : P.eqGuardType P.depth t = false
def LeafEq (P : Program) (t : TypeId) : Lf → Prop
  | .int k => P.underlying t = some (.int k)
  | .bool => P.underlying t = some .bool
  | .str => P.underlying t = some .string
  | _ => False
inductive Cover (P : Program) (N : Nat) : List Field → Nat → List Lf → Prop
  | nil {o} : Cover P N [] o []
  | leaf {f fs o l ls} : f.name ≠ "_" → f.offset = o → LeafEq P f.type l → Cover P N fs (o + 1) ls → Cover P N (f :: fs) o (l :: ls)
  | agg {f fs o l1 ls} : f.name ≠ "_" → f.offset = o → (isAggB : (P.underlying f.type).any (fun | .struct _ => true | .array _ _ => true | _ => false) = true) → ((P.info? f.type).map (·.size) = some l1.length) →
      (∀ (d : Nat) (w : World) (xs ys : List Value), Kinds l1 xs → Kinds l1 ys → (Op.equalIn (d + N) f.type (.agg xs.toArray) (.agg ys.toArray)).run P w = .ok (eqCells xs ys) w) → Cover P N fs (o + l1.length) ls → Cover P N (f :: fs) o (l1 ++ ls)
section
variable {P : Program} {w : World}
theorem part_leaf {t : TypeId} {l : Lf} (h : LeafEq P t l) {xs : Array Value} {o : Nat} {v : Value} (hv : xs[o]? = some v) : (part t xs o).run P w = .ok v w := by
  have ha : (isAgg t).run P w = .ok false w := by
    cases l <;> simp only [LeafEq] at h <;> first | exact h.elim | simp [isAgg, run_underlying h]
  simp [part, ha, hv]
theorem equalIn_leaf {t : TypeId} {l : Lf} (h : LeafEq P t l) (d : Nat) {a b : Value} (ha : ∃ x : l.T, a = l.enc x) (hb : ∃ x : l.T, b = l.enc x) : (Op.equalIn (d + 1) t a b).run P w = .ok (valueEq a b) w := by
  obtain ⟨x, rfl⟩ := ha
  obtain ⟨y, rfl⟩ := hb
  cases l <;> simp only [LeafEq] at h
  · exact run_equalIn_int w d t _ _ x y h
  · exact run_equalIn_bool' w d t x y h
  · exact run_equalIn_string w d t x y h
  all_goals exact h.elim
theorem eqFields_cover {N : Nat} (d : Nat) (xs ys : List Value) : ∀ (fs : List Field) (o : Nat) (ls : List Lf), Cover P (N + 1) fs o ls → Kinds ls (xs.drop o) → Kinds ls (ys.drop o) →
    (Op.eqFields (d + (N + 1)) xs.toArray ys.toArray fs).run P w = .ok (eqCells (xs.drop o) (ys.drop o)) w := by
  intro fs o ls h
  induction h with
  | nil =>
    intro h1 h2
    match hx : xs.drop _, hy : ys.drop _, h1, h2 with
    | [], [], _, _ => simp [Op.eqFields, eqCells]
  | @leaf f fs o l ls hn ho hl hc ih =>
    intro h1 h2
    subst ho
    match hx : xs.drop f.offset, hy : ys.drop f.offset, h1, h2 with
    | a :: as, b :: bs, h1, h2 =>
      have gx : xs.toArray[f.offset]? = some a := by have := congrArg List.head? hx; simpa using this
      have gy : ys.toArray[f.offset]? = some b := by have := congrArg List.head? hy; simpa using this
      have dx : xs.drop (f.offset + 1) = as := by rw [← List.tail_drop, hx]; rfl
      have dy : ys.drop (f.offset + 1) = bs := by rw [← List.tail_drop, hy]; rfl
      have hi := ih (by rw [dx]; exact h1.2) (by rw [dy]; exact h2.2)
      rw [dx, dy] at hi
      simp only [Op.eqFields, if_pos hn, Sem.run_bind, part_leaf hl gx, part_leaf hl gy, Result.andThen_ok]
      rw [show d + (N + 1) = (d + N) + 1 by omega, equalIn_leaf hl (d + N) h1.1 h2.1]
      simp only [Result.andThen_ok, eqCells]
      cases hv : valueEq a b
      · simp
      · simp only [Bool.not_true, Bool.false_eq_true, if_false, Bool.true_and]
        exact hi
  | @agg f fs o l1 ls hn ho ha hs he hc ih =>
    intro h1 h2
    subst ho
    have s1 := Kinds.split h1
    have s2 := Kinds.split h2
    have n1 := Kinds.length s1.1
    have n2 := Kinds.length s2.1
    rw [List.drop_drop] at s1 s2
    have hi := ih s1.2 s2.2
    have hag : (isAgg f.type).run P w = .ok true w := by
      cases hu : P.underlying f.type with
      | none => simp [hu] at ha
      | some d =>
        have hr := run_underlying (w := w) hu
        cases d <;> simp [hu] at ha <;> simp [isAgg, hr]
    have hsz : (sizeOf f.type).run P w = .ok l1.length w := by
      cases hi : P.info? f.type with
      | none => simp [hi] at hs
      | some i => simp [hi] at hs; simp [sizeOf, typeInfo, hi, hs]
    have px : ∀ zs : List Value, (part f.type zs.toArray f.offset).run P w = .ok (.agg ((zs.drop f.offset).take l1.length).toArray) w := fun zs => by
      simp only [part, Sem.run_bind, hag, Result.andThen_ok, if_true, hsz, Sem.run_pure]
      congr 2
      apply Array.ext'
      simp [List.take_drop]
    simp only [Op.eqFields, if_pos hn, Sem.run_bind, px, Result.andThen_ok, he d w _ _ s1.1 s2.1]
    have e : eqCells (xs.drop f.offset) (ys.drop f.offset) = (eqCells ((xs.drop f.offset).take l1.length) ((ys.drop f.offset).take l1.length) && eqCells (xs.drop (f.offset + l1.length)) (ys.drop (f.offset + l1.length))) := by
      conv => lhs; rw [← List.take_append_drop l1.length (xs.drop f.offset), ← List.take_append_drop l1.length (ys.drop f.offset)]
      rw [eqCells_append (by rw [n1, n2]), List.drop_drop, List.drop_drop]
    rw [e]
    cases hv : eqCells ((xs.drop f.offset).take l1.length) ((ys.drop f.offset).take l1.length)
    · simp
    · simp only [Bool.not_true, Bool.false_eq_true, if_false, Bool.true_and]
      exact hi
theorem eq_struct {N : Nat} {t : TypeId} {fs : List Field} {ls : List Lf} (ht : P.underlying t = some (.struct (P.fieldsOf t))) (hp : P.stoodInHeld t = false) (hf : (P.fieldsOf t).toList = fs) (hc : Cover P (N + 1) fs 0 ls) (d : Nat) (w : World) (xs ys : List Value) (hx : Kinds ls xs) (hy : Kinds ls ys) :
    (Op.equalIn (d + (N + 1) + 1) t (.agg xs.toArray) (.agg ys.toArray)).run P w = .ok (eqCells xs ys) w := by
  rw [run_equalIn_agg w (d + (N + 1)) t _ _ ht hp, hf]
  exact eqFields_cover d xs ys fs 0 ls hc hx hy
theorem run_eqAgg {t : TypeId} {ls : List Lf} [h : EqAgg P t ls] {o1 o2 : Operand} {xs ys : List Value} (hx : Kinds ls xs) (hy : Kinds ls ys) : (binS .eql t o1 o2 (.agg xs.toArray) (.agg ys.toArray)).run P w = .ok (.bool (eqCells xs ys)) w := by
  have h1 := h.eq 9980 w xs ys hx hy
  simp only [binS, Sem.run_bind, run_eqGuard_agg w .eql t o1 o2 _ _ h.guard, Result.andThen_ok, run_eql_struct, h1]
theorem run_neAgg {t : TypeId} {ls : List Lf} [h : EqAgg P t ls] {o1 o2 : Operand} {xs ys : List Value} (hx : Kinds ls xs) (hy : Kinds ls ys) : (binS .neq t o1 o2 (.agg xs.toArray) (.agg ys.toArray)).run P w = .ok (.bool (!eqCells xs ys)) w := by
  have h1 := h.eq 9980 w xs ys hx hy
  have h2 : (Op.equal t (.agg xs.toArray) (.agg ys.toArray)).run P w = .ok (eqCells xs ys) w := h1
  simp only [binS, Sem.run_bind, run_eqGuard_agg w .neq t o1 o2 _ _ h.guard, Result.andThen_ok, binOp, h2, Sem.run_pure]
/-! ### which structs these are: by computation -/
def leafOf (P : Program) (t : TypeId) : Option Lf := match P.underlying t with
  | some (.int k) => some (.int k)
  | some .bool => some .bool
  | some .string => some .str
  | _ => none
theorem leafOf_eq {t : TypeId} {l : Lf} (h : leafOf P t = some l) : LeafEq P t l := by
  unfold leafOf at h
  split at h <;> simp at h <;> subst h <;> assumption
def shapeFs (P : Program) (sub : TypeId → Option (List Lf)) : List Field → Nat → Option (List Lf)
  | [], _ => some []
  | f :: fs, o => match f.name == "_", Nat.beq f.offset o with
    | false, true => match leafOf P f.type with
      | some l => (shapeFs P sub fs (o + 1)).map (l :: ·)
      | none => match sub f.type with
        | some l1 => match (P.underlying f.type).any (fun | .struct _ => true | .array _ _ => true | _ => false), (P.info? f.type).map (·.size) with
          | true, some n => match Nat.beq n l1.length with
            | true => (shapeFs P sub fs (o + l1.length)).map (l1 ++ ·)
            | false => none
          | _, _ => none
        | none => none
    | _, _ => none
def shape (P : Program) : Nat → TypeId → Option (List Lf)
  | 0, _ => none
  | n + 1, t => match P.underlying t, P.stoodInHeld t with
    | some (.struct fs), false => shapeFs P (shape P n) fs.toList 0
    | _, _ => none
theorem shapeFs_cover {N : Nat} {sub : TypeId → Option (List Lf)} (hsub : ∀ t ls, sub t = some ls → ∀ (d : Nat) (w : World) (xs ys : List Value), Kinds ls xs → Kinds ls ys → (Op.equalIn (d + N) t (.agg xs.toArray) (.agg ys.toArray)).run P w = .ok (eqCells xs ys) w) :
    ∀ (fs : List Field) (o : Nat) (ls : List Lf), shapeFs P sub fs o = some ls → Cover P N fs o ls
  | [], o, ls, h => by simp [shapeFs] at h; subst h; exact .nil
  | f :: fs, o, ls, h => by
    unfold shapeFs at h
    split at h
    · rename_i hn ho
      have hn' : f.name ≠ "_" := by intro e; rw [e] at hn; simp at hn
      have ho' : f.offset = o := Nat.eq_of_beq_eq_true ho
      split at h
      · rename_i l hl
        cases hr : shapeFs P sub fs (o + 1) with
        | none => simp [hr] at h
        | some r => simp [hr] at h; subst h; exact .leaf hn' ho' (leafOf_eq hl) (shapeFs_cover hsub fs _ r hr)
      · split at h
        · rename_i l1 hl1
          split at h
          · rename_i n ha hs
            split at h
            · rename_i hb
              cases hr : shapeFs P sub fs (o + l1.length) with
              | none => simp [hr] at h
              | some r =>
                simp [hr] at h; subst h
                exact .agg hn' ho' ha (by rw [hs, Nat.eq_of_beq_eq_true hb]) (hsub _ _ hl1) (shapeFs_cover hsub fs _ r hr)
            · cases h
          · cases h
        · cases h
    · cases h
theorem shape_eq : ∀ (n : Nat) (t : TypeId) (ls : List Lf), shape P n t = some ls → ∀ (d : Nat) (w : World) (xs ys : List Value), Kinds ls xs → Kinds ls ys → (Op.equalIn (d + (n + 1)) t (.agg xs.toArray) (.agg ys.toArray)).run P w = .ok (eqCells xs ys) w
  | 0, _, _, h => by simp [shape] at h
  | n + 1, t, ls, h => by
    unfold shape at h
    split at h
    · rename_i fs hu hp
      have hf : P.fieldsOf t = fs := by simp [Program.fieldsOf, hu]
      intro d w xs ys hx hy
      have := eq_struct (N := n) (t := t) (fs := fs.toList) (by rw [hf]; exact hu) hp (by rw [hf]) (shapeFs_cover (shape_eq n) fs.toList 0 ls h) d w xs ys hx hy
      exact this
    · cases h
theorem EqAgg.of {t : TypeId} {ls : List Lf} (h1 : shape P 5 t = some ls) (h2 : P.eqGuardType P.depth t = false) : EqAgg P t ls :=
  ⟨fun d w xs ys hx hy => shape_eq 5 t ls h1 (d + 14) w xs ys hx hy, h2⟩
theorem eqA_i {t : TypeId} {ls : List Lf} [EqAgg P t ls] {o1 o2 : Operand} (xs ys : List Value) {K : Bool → World → Prop} (hx : Kinds ls xs) (hy : Kinds ls ys) (hK : K (eqCells xs ys) w) : semS P (binS .eql t o1 o2 (.agg xs.toArray) (.agg ys.toArray)) (.one .bool) K w := ⟨_, w, run_eqAgg hx hy, hK⟩
theorem eqAQ_i {t : TypeId} {ls : List Lf} [EqAgg P t ls] {o1 o2 : Operand} (xs ys : List Value) {C : World → Prop} {K : Bool → Prop} (hx : Kinds ls xs) (hy : Kinds ls ys) (hK : K (eqCells xs ys)) : semQ P C (binS .eql t o1 o2 (.agg xs.toArray) (.agg ys.toArray)) (.one .bool) K := ⟨_, fun w _ => run_eqAgg hx hy, hK⟩
theorem neA_i {t : TypeId} {ls : List Lf} [EqAgg P t ls] {o1 o2 : Operand} (xs ys : List Value) {K : Bool → World → Prop} (hx : Kinds ls xs) (hy : Kinds ls ys) (hK : K (!eqCells xs ys) w) : semS P (binS .neq t o1 o2 (.agg xs.toArray) (.agg ys.toArray)) (.one .bool) K w := ⟨_, w, run_neAgg hx hy, hK⟩
theorem neAQ_i {t : TypeId} {ls : List Lf} [EqAgg P t ls] {o1 o2 : Operand} (xs ys : List Value) {C : World → Prop} {K : Bool → Prop} (hx : Kinds ls xs) (hy : Kinds ls ys) (hK : K (!eqCells xs ys)) : semQ P C (binS .neq t o1 o2 (.agg xs.toArray) (.agg ys.toArray)) (.one .bool) K := ⟨_, fun w _ => run_neAgg hx hy, hK⟩
theorem eqCells_refl : ∀ {ls : List Lf} {xs : List Value}, (∀ l ∈ ls, match l with | .int _ => True | .bool => True | .str => True | _ => False) → Kinds ls xs → eqCells xs xs = true
  | [], [], _, _ => rfl
  | l :: ls, x :: xs, hl, h => by
    obtain ⟨⟨y, rfl⟩, h2⟩ := h
    have h0 := hl l (by simp)
    have ih := eqCells_refl (fun l hm => hl l (by simp [hm])) h2
    simp only [eqCells, ih, Bool.and_true]
    cases l <;> simp only at h0 <;> simp [Lf.enc, valueEq]
  | [], _ :: _, _, h => h.elim
  | _ :: _, [], _, h => h.elim
end
end Go.Eng
