/- What is read of an argument, more: rows of bytes and of bools within structs and slices; the package's tables. -/
import Derived.Test.YteopoodhclljjaaGreatDoorRowLib2
import Derived.Test.YteopoodhclljjaaGreatDoorLib5
import Derived.Deep.DeepHandedRow
import Derived.Lib.LaidTab
set_option linter.unusedSimpArgs false
set_option linter.unusedVariables false
namespace Go.Eng
open Go Go.ChangeShapes Go.WideShapes Go.ChangeAt Go.RowKit

inductive RK where
  | int (k : IntKind) | bool | str | bts | bls
def OkR (W : World) : RK → Value → Prop
  | .int k, v => ∃ n, v = .int k n ∧ (Lit.int k n).wf = true
  | .bool, v => ∃ b, v = .bool b
  | .str, v => ∃ s, v = .string s ∧ s.size ≤ maxLen
  | .bts, v => ∃ (s : Sl) (bs : List UInt8), v = slV s ∧ Bts W s bs ∧ s.cap ≤ 9223372036854775807
  | .bls, v => ∃ (s : Sl) (bs : List Bool), v = slV s ∧ Rd W s 1 (bs.map Value.bool) ∧ s.cap ≤ 9223372036854775807
def KindsR (W : World) : List RK → List Value → Prop
  | [], [] => True
  | l :: ls, v :: vs => OkR W l v ∧ KindsR W ls vs
  | _, _ => False
theorem KindsR.length {W : World} : ∀ {ls : List RK} {vs : List Value}, KindsR W ls vs → vs.length = ls.length
  | [], [], _ => rfl
  | l :: ls, v :: vs, h => by simp [KindsR.length h.2]
  | [], _ :: _, h => h.elim
  | _ :: _, [], h => h.elim
theorem KindsR.append {W : World} : ∀ {l1 l2 : List RK} {a b : List Value}, KindsR W l1 a → KindsR W l2 b → KindsR W (l1 ++ l2) (a ++ b)
  | [], _, [], _, _, h => h
  | l :: l1, _, v :: a, _, h, h2 => ⟨h.1, KindsR.append h.2 h2⟩
  | [], _, _ :: _, _, h, _ => h.elim
  | _ :: _, _, [], _, h, _ => h.elim
theorem OkR.one {W : World} {l : RK} {v : Value} (h : OkR W l v) : v.oneCell' = true := by
  cases l <;> simp only [OkR] at h
  · obtain ⟨n, rfl, _⟩ := h; rfl
  · obtain ⟨n, rfl⟩ := h; rfl
  · obtain ⟨n, rfl, _⟩ := h; rfl
  · obtain ⟨s, _, rfl, _⟩ := h; rfl
  · obtain ⟨s, _, rfl, _⟩ := h; rfl
theorem KindsR.one {W : World} : ∀ {ls : List RK} {vs : List Value}, KindsR W ls vs → ∀ v ∈ vs, v.oneCell' = true
  | [], [], _, v, hv => by cases hv
  | l :: ls, x :: vs, h, v, hv => by
    rcases List.mem_cons.1 hv with rfl | hv
    · exact OkR.one h.1
    · exact KindsR.one h.2 v hv
  | [], _ :: _, h, _, _ => h.elim
  | _ :: _, [], h, _, _ => h.elim
def leafR (P : Program) (t : TypeId) : Option RK := match P.underlying t with
  | some (.int k) => some (.int k)
  | some .bool => some .bool
  | some .string => some .str
  | some (.slice e) => match P.underlying e, Nat.beq (P.cellsOf e) 1 with
    | some (.int .u8), true => some .bts
    | some .bool, true => some .bls
    | _, _ => none
  | _ => none
def flatRFs (P : Program) (sub : TypeId → Option (List RK)) : List Field → Nat → Option (List RK)
  | [], _ => some []
  | f :: fs, o => match Nat.beq f.offset o, sub f.type with
    | true, some l1 => match Nat.beq (P.cellsOf f.type) l1.length with
      | true => (flatRFs P sub fs (o + l1.length)).map (l1 ++ ·)
      | false => none
    | _, _ => none
def flatR (P : Program) : Nat → TypeId → Option (List RK)
  | 0, _ => none
  | n + 1, t => match leafR P t with
    | some l => some [l]
    | none => match P.underlying t with
      | some (.struct fs) => match flatRFs P (flatR P n) fs.toList 0 with
        | some ls => match Nat.beq (P.cellsOf t) ls.length with
          | true => some ls
          | false => none
        | none => none
      | some (.array k e) => match flatR P n e with
        | some l => match Nat.beq (P.cellsOf e) l.length, Nat.beq (P.cellsOf t) (List.replicate k l).flatten.length with
          | true, true => some (List.replicate k l).flatten
          | _, _ => none
        | none => none
      | _ => none
section
variable {H : Type} {enc : TypeId × Value → H} {P : Program} {W : World} {base : Nat} {sp : Nat → Bool} {held : Bool}
theorem one_flatten : ∀ (css : List (List Value)) (f : Value → Prop), (∀ c ∈ css, ∃ v, c = [v] ∧ f v) → ∃ vs : List Value, css = vs.map (fun v => [v]) ∧ ∀ v ∈ vs, f v
  | [], _, _ => ⟨[], rfl, fun v h => by cases h⟩
  | c :: css, f, h => by
    obtain ⟨v, rfl, hv⟩ := h c (by simp)
    obtain ⟨vs, rfl, hvs⟩ := one_flatten css f fun c hm => h c (by simp [hm])
    exact ⟨v :: vs, rfl, fun x hx => by rcases List.mem_cons.1 hx with rfl | hx; exact hv; exact hvs x hx⟩
theorem flatten_one (vs : List Value) : (vs.map (fun v => [v])).flatten = vs := by
  induction vs with
  | nil => rfl
  | cons v vs ih => simp [ih]
theorem map_of {α β : Type} (g : β → α) (p : α → Prop) : ∀ (vs : List α), (∀ v ∈ vs, p v) → (∀ v, p v → ∃ b, v = g b) → ∃ bs : List β, vs = bs.map g
  | [], _, _ => ⟨[], rfl⟩
  | v :: vs, h, hg => by
    obtain ⟨b, rfl⟩ := hg v (h v (by simp))
    obtain ⟨bs, rfl⟩ := map_of g p vs (fun x hx => h x (by simp [hx])) hg
    exact ⟨b :: bs, rfl⟩
theorem rd_of_slice {t e : TypeId} {a : Option Addr} {len cap : Nat} {d : DataW H} {ps : List MemPlace} {l : Lf} (ht : P.underlying t = some (.slice e)) (hl : leafOf P e = some l) (hc : P.cellsOf e = 1)
    (h : DataW.Trod enc P W base sp held t (.slice a len cap) d ps) : ∃ vs : List Value, Rd W ⟨a, len, cap⟩ 1 vs ∧ (∀ v ∈ vs, OkL l v) ∧ cap ≤ 9223372036854775807 := by
  have hf : flat P 1 e = some [l] := by unfold flat; rw [hl]
  obtain ⟨css, hr, hk, hcap, _⟩ := slice_of_trod (ls := [l]) ht hf hc h
  obtain ⟨vs, rfl, hvs⟩ := one_flatten css (OkL l) fun c hm => by
    have := hk c hm
    match c, this with
    | [v], h => exact ⟨v, rfl, h.1⟩
  refine ⟨vs, ?_, hvs, hcap⟩
  have := hr.rd
  rwa [flatten_one] at this
theorem leafR_trod {t : TypeId} {r : RK} (h : leafR P t = some r) {fuel : Nat} {cs : List Value} {x : DataW H × List MemPlace} (hx : DataW.trod enc P W base sp held fuel t cs = some x) : ∃ v, cs = [v] ∧ OkR W r v := by
  unfold leafR at h
  split at h
  · rename_i k hu
    simp at h; subst h
    obtain ⟨m, rfl, _, hw⟩ := DataW.trod_int hu hx; exact ⟨_, rfl, m, rfl, hw⟩
  · rename_i hu
    simp at h; subst h
    obtain ⟨m, rfl, _⟩ := DataW.trod_bool hu hx; exact ⟨_, rfl, m, rfl⟩
  · rename_i hu
    simp at h; subst h
    obtain ⟨m, rfl, _, hw⟩ := DataW.trod_string hu hx; exact ⟨_, rfl, m, rfl, hw⟩
  · rename_i e hu
    have key : ∃ s : Sl, cs = [slV s] ∧ DataW.Trod enc P W base sp held t (.slice s.a s.len s.cap) x.1 x.2 := by
      rcases DataW.trod_slice hu hx with ⟨rfl, _⟩ | ⟨a, len, cap, _, _, _, _, rfl, _⟩
      · exact ⟨Sl.nil, rfl, fuel, hx⟩
      · exact ⟨⟨some a, len, cap⟩, rfl, fuel, hx⟩
    obtain ⟨s, rfl, hs⟩ := key
    split at h
    · rename_i he hc
      simp at h; subst h
      obtain ⟨vs, hr, hv, hcap⟩ := rd_of_slice hu (l := .int .u8) (by unfold leafOf; rw [he]) (Nat.eq_of_beq_eq_true hc) hs
      obtain ⟨bs, rfl⟩ := map_of vB (OkL (.int .u8)) vs hv fun v hv => by
        obtain ⟨n, rfl, hw⟩ := hv
        have h1 := wf_u8 hw
        refine ⟨UInt8.ofNat n.toNat, ?_⟩
        simp only [vB, UInt8.toNat_ofNat']
        congr 1
        omega
      exact ⟨_, rfl, s, bs, rfl, hr, hcap⟩
    · rename_i he hc
      simp at h; subst h
      obtain ⟨vs, hr, hv, hcap⟩ := rd_of_slice hu (l := .bool) (by unfold leafOf; rw [he]) (Nat.eq_of_beq_eq_true hc) hs
      obtain ⟨bs, rfl⟩ := map_of Value.bool (OkL .bool) vs hv fun v hv => hv
      exact ⟨_, rfl, s, bs, rfl, hr, hcap⟩
    · cases h
  · cases h
theorem flatRFs_trod {sub : TypeId → Option (List RK)} {n : Nat} {cs : List Value} (hsub : ∀ t ls, sub t = some ls → ∀ (cs : List Value) (x : DataW H × List MemPlace), DataW.trod enc P W base sp held n t cs = some x → KindsR W ls cs) :
    ∀ (fs : List Field) (o : Nat) (ls : List RK), flatRFs P sub fs o = some ls → cs.length = o + ls.length → (∀ f ∈ fs, ∃ y, DataW.trod enc P W base sp held n f.type ((cs.drop f.offset).take (P.cellsOf f.type)) = some y) → KindsR W ls (cs.drop o)
  | [], o, ls, h, hl, _ => by
    simp [flatRFs] at h; subst h
    rw [List.drop_of_length_le (by simp at hl; omega)]; trivial
  | f :: fs, o, ls, h, hl, hf => by
    unfold flatRFs at h
    split at h
    · rename_i l1 ho hl1
      have ho' : f.offset = o := Nat.eq_of_beq_eq_true ho
      split at h
      · rename_i hb
        have hb' := Nat.eq_of_beq_eq_true hb
        cases hr : flatRFs P sub fs (o + l1.length) with
        | none => simp [hr] at h
        | some r =>
          simp [hr] at h
          subst h
          obtain ⟨y, hy⟩ := hf f (by simp)
          have k1 := hsub _ _ hl1 _ _ hy
          have k2 := flatRFs_trod hsub fs _ r hr (by simp at hl; omega) (fun f hm => hf f (by simp [hm]))
          have := KindsR.append k1 k2
          rw [ho', hb'] at this
          rwa [← List.drop_drop, List.take_append_drop] at this
      · cases h
    · cases h
theorem repR_trod {l : List RK} {m : Nat} : ∀ (k : Nat) (cs : List Value), l.length = m → cs.length = k * m → (∀ i, i < k → KindsR W l ((cs.drop (i * m)).take m)) → KindsR W (List.replicate k l).flatten cs
  | 0, cs, _, hl, _ => by
    have : cs = [] := List.eq_nil_of_length_eq_zero (by simpa using hl)
    subst this; simp [KindsR]
  | k + 1, cs, hm, hl, h => by
    have h0 := h 0 (by omega)
    simp only [Nat.zero_mul, List.drop_zero] at h0
    have ih := repR_trod k (cs.drop m) hm (by rw [List.length_drop, hl, Nat.add_mul]; omega) fun i hi => by
      have := h (i + 1) (by omega)
      rwa [List.drop_drop, show m + i * m = (i + 1) * m by rw [Nat.add_mul]; omega]
    have := KindsR.append h0 ih
    rw [List.take_append_drop] at this
    simpa [List.replicate_succ] using this
theorem flatR_trod : ∀ (n : Nat) (t : TypeId) (ls : List RK), flatR P n t = some ls → ∀ (fuel : Nat) (cs : List Value) (x : DataW H × List MemPlace), DataW.trod enc P W base sp held fuel t cs = some x → KindsR W ls cs
  | 0, _, _, h, _, _, _, _ => by simp [flatR] at h
  | n + 1, t, ls, h, fuel, cs, x, hx => by
    unfold flatR at h
    split at h
    · rename_i l hl
      simp at h; subst h
      obtain ⟨v, rfl, hv⟩ := leafR_trod hl hx
      exact ⟨hv, trivial⟩
    · split at h
      · rename_i fs hu
        split at h
        · rename_i ls' hf
          split at h
          · rename_i hb
            simp at h; subst h
            obtain ⟨xs, m, rfl, _, hcl, hxl, hall⟩ := DataW.trod_struct hu hx
            have := flatRFs_trod (cs := cs) (fun t ls ht cs x h => flatR_trod n t ls ht m cs x h) fs.toList 0 ls' hf (by rw [hcl, Nat.eq_of_beq_eq_true hb]; omega) fun f hm => by
              obtain ⟨i, hi, rfl⟩ := List.getElem_of_mem hm
              have hi' : i < fs.size := by simpa using hi
              have := hall i fs[i] (by simp [hi'])
              refine ⟨xs[i]'(by omega), ?_⟩
              simpa [hxl, hi'] using this
            simpa using this
          · cases h
        · cases h
      · rename_i k e hu
        split at h
        · rename_i l hl
          split at h
          · rename_i hb1 hb2
            simp at h; subst h
            obtain ⟨xs, m, rfl, _, hcl, hxl, hall⟩ := DataW.trod_array hu hx
            have hb1' := Nat.eq_of_beq_eq_true hb1
            have hb2' := Nat.eq_of_beq_eq_true hb2
            refine repR_trod k cs hb1'.symm ?_ fun i hi => ?_
            · rw [hcl, hb2', hb1']; simp
            · have := hall i hi
              exact flatR_trod n e l hl m _ (xs[i]'(by omega)) (by rw [this]; simp [hxl, hi])
          · cases h
        · cases h
      · cases h
theorem aggR_of_trod {n : Nat} {t : TypeId} {ls : List RK} {r : Reach} {b0 : Nat} {v : Value} {d : DataW H} {ps : List MemPlace} (hf : flatR P n t = some ls) (ha : (P.underlying t).any (fun | .struct _ => true | .array _ _ => true | _ => false) = true)
    (hv : Value.okWide P W r b0 t v) (h : DataW.Trod enc P W base sp held t v d ps) : ∃ cs, v = .agg cs.toArray ∧ KindsR W ls cs := by
  obtain ⟨fuel, hx⟩ := h
  have hk := flatR_trod n t ls hf fuel _ _ hx
  unfold Value.okWide at hv
  cases hu : P.underlying t with
  | none => simp [hu] at ha
  | some d =>
    rw [hu] at hv
    cases d <;> simp [hu] at ha
    · obtain ⟨cs, rfl, _⟩ := hv; exact ⟨cs.toList, by simp, hk⟩
    · obtain ⟨cs, rfl, _⟩ := hv; exact ⟨cs.toList, by simp, hk⟩
theorem sliceR_of_trod {n : Nat} {t e : TypeId} {ls : List RK} {a : Option Addr} {len cap : Nat} {d : DataW H} {ps : List MemPlace} (ht : P.underlying t = some (.slice e)) (hf : flatR P n e = some ls) (hc : P.cellsOf e = ls.length)
    (h : DataW.Trod enc P W base sp held t (.slice a len cap) d ps) :
    ∃ css : List (List Value), Rds W ⟨a, len, cap⟩ ls.length css ∧ (∀ c ∈ css, KindsR W ls c) ∧ cap ≤ 9223372036854775807 ∧ (css = [] ∨ ∃ zs rest : List (DataW H), d = .slice zs rest ∧ zs.length = css.length) := by
  obtain ⟨fuel, hx⟩ := h
  rcases DataW.trod_slice ht hx with ⟨hcs, _⟩ | ⟨x, l, c, elems, rest, m, _, hcs, hxx, hb, hl, hm, hlen, hel, _, _⟩
  · simp [Value.cells] at hcs
    obtain ⟨rfl, rfl, rfl⟩ := hcs
    exact ⟨[], ⟨Rd.nilSl _ _, rfl, fun c h => by cases h⟩, (fun c h => by cases h), by omega, .inl rfl⟩
  · simp [Value.cells] at hcs
    obtain ⟨rfl, rfl, rfl⟩ := hcs
    have key : ∀ i, i < len → ∃ c, W.cells? base (x.add (i * P.cellsOf e)) (P.cellsOf e) = some c ∧ KindsR W ls c := fun i hi => by
      have h1 := hel i hi
      rw [List.getElem?_eq_getElem (by omega)] at h1
      cases hcl : W.cells? base (x.add (i * P.cellsOf e)) (P.cellsOf e) with
      | none => rw [hcl] at h1; simp at h1
      | some c => rw [hcl] at h1; exact ⟨c, rfl, flatR_trod n e ls hf m c _ h1⟩
    have ex : ∃ f : Nat → List Value, ∀ i, i < len → W.cells? base (x.add (i * P.cellsOf e)) (P.cellsOf e) = some (f i) ∧ KindsR W ls (f i) := by
      refine ⟨fun i => (W.cells? base (x.add (i * P.cellsOf e)) (P.cellsOf e)).getD [], fun i hi => ?_⟩
      obtain ⟨c, h1, h2⟩ := key i hi
      simp only [h1, Option.getD_some]
      exact ⟨trivial, h2⟩
    obtain ⟨f, hfk⟩ := ex
    have hk : ∀ c ∈ (List.range len).map f, KindsR W ls c := fun c hm => by
      obtain ⟨i, hi, rfl⟩ := List.mem_map.1 hm
      exact (hfk i (by simpa using hi)).2
    have hl' : ∀ c ∈ (List.range len).map f, c.length = ls.length := fun c hm => (hk c hm).length
    refine ⟨(List.range len).map f, ⟨⟨?_, hl, (fun h => by cases h), ?_⟩, by simp, hl'⟩, hk, by unfold maxLen at hm; omega, .inr ⟨_, _, (Prod.mk.inj hxx).1, by simp [hlen]⟩⟩
    · rw [flatten_len hl']; simp
    · rintro y ⟨rfl⟩ i v hv
      obtain ⟨q, r, c, rfl, hr, h1, h2⟩ := flatten_get hl' i v hv
      have hq : q < len := by
        have := (List.getElem?_eq_some_iff.1 h1).1
        simpa using this
      have h3 : f q = c := by simpa [hq] using h1
      obtain ⟨_, _, h5⟩ := World.cells?_some (hfk q hq).1
      have := h5 r (by omega)
      rw [h3, h2, add_add', hc] at this
      exact this
/-- '[][]byte' -/
theorem parts_of {s : Sl} {css : List (List Value)} (hr : Rds W s 1 css) (hk : ∀ c ∈ css, KindsR W [.bts] c) : ∃ xs : List (Sl × List UInt8), Parts W s xs := by
  have : ∃ xs : List (Sl × List UInt8), css = xs.map (fun x => [slV x.1]) ∧ ∀ x ∈ xs, Bts W x.1 x.2 := by
    clear hr
    induction css with
    | nil => exact ⟨[], rfl, fun x h => by cases h⟩
    | cons c css ih =>
      obtain ⟨xs, rfl, hx⟩ := ih fun c hm => hk c (by simp [hm])
      have h1 := hk c (by simp)
      match c, h1 with
      | [v], ⟨⟨s, bs, hv, hb, _⟩, _⟩ =>
        subst hv
        exact ⟨(s, bs) :: xs, rfl, fun x hx' => by rcases List.mem_cons.1 hx' with rfl | hx'; exact hb; exact hx x hx'⟩
  obtain ⟨xs, rfl, hx⟩ := this
  refine ⟨xs, ?_, hx⟩
  have := hr.rd
  rwa [show (xs.map (fun x => [slV x.1])).flatten = xs.map (fun x => slV x.1) by rw [← flatten_one (xs.map fun x => slV x.1), List.map_map]; rfl] at this
end
theorem kinds_cons {W : World} {l : RK} {ls : List RK} : ∀ {c : List Value}, KindsR W (l :: ls) c → ∃ v c', c = v :: c' ∧ OkR W l v ∧ KindsR W ls c'
  | v :: c, h => ⟨v, c, rfl, h.1, h.2⟩
theorem kinds_nil {W : World} : ∀ {c : List Value}, KindsR W [] c → c = []
  | [], _ => rfl
theorem ok_int {W : World} {k : IntKind} {v : Value} (h : OkR W (.int k) v) : ∃ n, v = .int k n ∧ (Lit.int k n).wf = true := h
theorem ok_bool {W : World} {v : Value} (h : OkR W .bool v) : ∃ b, v = .bool b := h
theorem ok_str {W : World} {v : Value} (h : OkR W .str v) : ∃ l : List UInt8, v = .string (str l) ∧ l.length ≤ 9223372036854775807 := by
  obtain ⟨s, rfl, hs⟩ := h
  refine ⟨s.toList, by rw [str_of], ?_⟩
  rw [← str_size, str_of]; unfold maxLen at hs; omega
theorem ok_bts {W : World} {v : Value} (h : OkR W .bts v) : ∃ x : Sl × List UInt8, v = slV x.1 ∧ Bts W x.1 x.2 := by
  obtain ⟨s, bs, h1, h2, _⟩ := h; exact ⟨(s, bs), h1, h2⟩
theorem ok_bls {W : World} {v : Value} (h : OkR W .bls v) : ∃ x : Sl × List Bool, v = slV x.1 ∧ Rd W x.1 1 (x.2.map Value.bool) := by
  obtain ⟨s, bs, h1, h2, _⟩ := h; exact ⟨(s, bs), h1, h2⟩
theorem one_kinds {W : World} {l : RK} : ∀ {c : List Value}, KindsR W [l] c → ∃ v, c = [v] ∧ OkR W l v
  | [v], h => ⟨v, rfl, h.1⟩
/-- '[]bool' -/
theorem bools_of {W : World} {s : Sl} {css : List (List Value)} (hr : Rds W s 1 css) (hk : ∀ c ∈ css, KindsR W [.bool] c) : ∃ xs : List Bool, Rd W s 1 (xs.map Value.bool) := by
  obtain ⟨vs, rfl, hvs⟩ := one_flatten css (OkR W .bool) fun c hm => by
    have := hk c hm
    match c, this with
    | [v], h => exact ⟨v, rfl, h.1⟩
  obtain ⟨bs, rfl⟩ := map_of Value.bool (OkR W .bool) vs hvs fun v hv => hv
  have := hr.rd
  rw [flatten_one] at this
  exact ⟨bs, this⟩
/-- '[]int' -/
theorem ints_of {W : World} {s : Sl} {css : List (List Value)} (hr : Rds W s 1 css) (hk : ∀ c ∈ css, KindsR W [.int .i64] c) : ∃ xs : List Int, Rd W s 1 (xs.map (Value.int .i64)) ∧ ∀ x ∈ xs, -9223372036854775808 ≤ x ∧ x ≤ 9223372036854775807 := by
  obtain ⟨vs, rfl, hvs⟩ := one_flatten css (OkR W (.int .i64)) fun c hm => one_kinds (hk c hm)
  have hr' := hr.rd
  rw [flatten_one] at hr'
  clear hr hk
  have : ∃ xs : List Int, vs = xs.map (Value.int .i64) ∧ ∀ x ∈ xs, -9223372036854775808 ≤ x ∧ x ≤ 9223372036854775807 := by
    clear hr'
    induction vs with
    | nil => exact ⟨[], rfl, fun x h => by cases h⟩
    | cons v vs ih =>
      obtain ⟨n, rfl, hw⟩ := hvs v (by simp)
      obtain ⟨xs, rfl, hx⟩ := ih fun v hv => hvs v (by simp [hv])
      exact ⟨n :: xs, rfl, fun x hx' => by rcases List.mem_cons.1 hx' with rfl | hx'; exact wf_i64 hw; exact hx x hx'⟩
  obtain ⟨xs, rfl, hx⟩ := this
  exact ⟨xs, hr', hx⟩
/-- A list whose elements are opened one by one. -/
theorem each_of {α : Type} {ls : List RK} {W : World} (f : α → List Value) (p : α → Prop) (ho : ∀ c, KindsR W ls c → ∃ a, c = f a ∧ p a) : ∀ (css : List (List Value)), (∀ c ∈ css, KindsR W ls c) → ∃ as : List α, css = as.map f ∧ ∀ a ∈ as, p a
  | [], _ => ⟨[], rfl, fun x h => by cases h⟩
  | c :: css, h => by
    obtain ⟨a, rfl, ha⟩ := ho c (h c (by simp))
    obtain ⟨l, rfl, hl⟩ := each_of f p ho css fun c hm => h c (by simp [hm])
    exact ⟨a :: l, rfl, fun x hx => by rcases List.mem_cons.1 hx with rfl | hx; exact ha; exact hl x hx⟩
/-- '[][2]int' -/
theorem pairs_of {W : World} {s : Sl} {css : List (List Value)} (hr : Rds W s 2 css) (hk : ∀ c ∈ css, KindsR W [.int .i64, .int .i64] c) : ∃ l : List (Int × Int), Rds W s 2 (l.map fun x => [.int .i64 x.1, .int .i64 x.2]) ∧ ∀ x ∈ l, (-9223372036854775808 ≤ x.1 ∧ x.1 ≤ 9223372036854775807) ∧ (-9223372036854775808 ≤ x.2 ∧ x.2 ≤ 9223372036854775807) := by
  obtain ⟨l, rfl, hl⟩ := each_of (fun x : Int × Int => [.int .i64 x.1, .int .i64 x.2]) (fun x => (-9223372036854775808 ≤ x.1 ∧ x.1 ≤ 9223372036854775807) ∧ (-9223372036854775808 ≤ x.2 ∧ x.2 ≤ 9223372036854775807)) (fun c hc => by
    obtain ⟨v1, c, rfl, h1, hc⟩ := kinds_cons hc
    obtain ⟨v2, c, rfl, h2, hc⟩ := kinds_cons hc
    obtain rfl := kinds_nil hc
    obtain ⟨a1, rfl, q1⟩ := ok_int h1
    obtain ⟨a2, rfl, q2⟩ := ok_int h2
    exact ⟨(a1, a2), rfl, wf_i64 q1, wf_i64 q2⟩) css hk
  exact ⟨l, hr, hl⟩
/-! ### tables -/
theorem var_of_laidVars {P : Program} {W : World} {name : String} {k : IntKind} {zs : List Int} {g : Nat} {t e : TypeId} {n : Nat} (hg : P.globalNamed name = some g) (hty : (P.globals[g]?).map (·.type) = some t) (ht : P.underlying t = some (.array n e)) (he : P.underlying e = some (.int k)) (hce : P.cellsOf e = 1) (hct : P.cellsOf t = n) (hz : zs ≠ []) :
    ∀ (laid : List (String × DataW Unit)) (ps : List MemPlace), DataW.LaidVars P W laid ps → (name, Go.Lib.tabData k zs) ∈ laid → (∀ b off, MemPlace.cell b off ∈ ps → ∃ c t, W.heap[b]? = some (.cells c t (0, 0))) → Var W g (zs.map (Value.int k))
  | [], _, _, hm, _ => by cases hm
  | (n', d) :: laid, ps, h, hm, hf => by
    obtain ⟨g', t', cs, fuel, p, q, hg', ht', hvar, hd, hrest, rfl⟩ := h
    rcases List.mem_cons.1 hm with he' | hm
    · obtain ⟨rfl, rfl⟩ := Prod.mk.inj he'
      obtain rfl := Option.some.inj (hg.symm.trans hg')
      obtain rfl := Option.some.inj (hty.symm.trans ht')
      have hcs := Go.Lib.cells_of_tab ht he hce hct hd
      unfold World.var? at hvar
      rw [hg] at hvar
      simp only [Option.bind_some] at hvar
      cases hh : W.heap[g]? with
      | none => simp [hh] at hvar
      | some o =>
        cases o <;> simp [hh] at hvar
        rename_i cs' t' fz'
        subst hvar
        have hsz : 0 < cs'.size := by
          rw [← Array.length_toList, hcs, List.length_map]
          cases zs with
          | nil => exact absurd rfl hz
          | cons _ _ => simp
        obtain ⟨c, t2, hc⟩ := hf g 0 (by
          simp only [List.append_assoc]
          refine List.mem_append_left _ ?_
          simp only [MemPlace.row, List.mem_map, List.mem_range]
          exact ⟨0, hsz, rfl⟩)
        refine ⟨t2, (0, 0), ?_, fz0⟩
        have h5 : cs' = c := by rw [hh] at hc; simp at hc; exact hc.1
        rw [hc, ← h5, ← hcs, Array.toArray_toList]
    · exact var_of_laidVars hg hty ht he hce hct hz laid q hrest hm fun b off hb => hf b off (by simp [hb])
theorem var_of_laid {P : Program} {W : World} {laid : List (String × DataW Unit)} (h : laidMet P laid W) {name : String} {k : IntKind} {zs : List Int} {g : Nat} {t e : TypeId} {n : Nat} (hm : (name, Go.Lib.tabData k zs) ∈ laid) (hg : P.globalNamed name = some g) (hty : (P.globals[g]?).map (·.type) = some t) (ht : P.underlying t = some (.array n e)) (he : P.underlying e = some (.int k)) (hce : P.cellsOf e = 1) (hct : P.cellsOf t = n) (hz : zs ≠ []) :
    Var W g (zs.map (Value.int k)) := by
  obtain ⟨ps, h1, _, h2⟩ := h
  exact var_of_laidVars hg hty ht he hce hct hz laid ps h1 hm fun b off hb => (h2 b off hb).1
end Go.Eng
