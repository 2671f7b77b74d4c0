/- Layer 1 (span): what its functions come to, as contracts over the plain functions of Pure01. -/
import Derived.Test.YtbmcbjmpogbmeaaDoorPure01
import Derived.Test.YtbmcbjmpogbmeaaDoorSh
import Derived.Test.YtbmcbjmpogbmeaaDoorTy
set_option linter.unusedSimpArgs false
set_option linter.unusedVariables false
namespace Go.Proofs.YtbmcbjmpogbmeaaDoor
open Go Go.Eng

theorem within_s {a b c : Int} {K : Bool → World → Prop} {w : World} (ha : S.I64 a) (hb : S.I64 b) (hc : S.I64 c) (hK : K (S.within a b c) w) :
    callS Tryd.prog 54 #[.int .i64 a, .int .i64 b, .int .i64 c] [.one .bool] K w := by
  refine f54_ok ?_
  unfold f54
  have : (((((decide (a ≥ 0)) && (decide (b ≥ 0))) && (decide (c ≥ 0))) && (decide (a ≤ c))) && (decide (b ≤ (IntKind.wrap .i64 (c - a))))) = S.within a b c := by
    unfold S.within
    by_cases h : 0 ≤ a ∧ 0 ≤ c ∧ a ≤ c
    · rw [wrap_i64 (by omega) (by omega)]
    · rw [Bool.eq_iff_iff]
      simp only [Bool.and_eq_true, decide_eq_true_eq]
      constructor <;> intro h' <;> exact absurd ⟨by omega, by omega, by omega⟩ h
  rw [this]; exact hK

theorem align_s {n to : Int} {K : Int → Int → World → Prop} {w : World} (hn : S.I64 n) (ht : S.I64 to) (hK : K (S.align n to).1 (S.align n to).2 w) :
    callS Tryd.prog 45 #[.int .i64 n, .int .i64 to] [.one (.int .i64), .one (.int .i64)] K w := by
  refine f45_ok ?_
  unfold f45
  unfold S.align at hK
  refine cond_i (fun h => ?_) (fun h => ?_)
  · rw [if_pos (by simp only [Bool.or_eq_true, decide_eq_true_eq] at h; omega)] at hK; exact hK
  · have h' : ¬ (n < 0 ∨ to < 1 ∨ to > 65536) := by simp only [Bool.or_eq_false_iff, decide_eq_false_iff_not] at h; omega
    rw [if_neg h'] at hK
    refine cond_i (fun h2 => ?_) (fun h2 => ?_)
    · rw [if_pos (by simpa using h2)] at hK; exact hK
    · have h2' : ¬ n > 4611686018427387904 := by simpa using h2
      rw [if_neg h2'] at hK
      have hd := Int.ediv_mul_le (n + to - 1) (show to ≠ 0 by omega)
      have hd0 : 0 ≤ (n + to - 1) / to := Int.ediv_nonneg (by omega) (by omega)
      have hd1 : (n + to - 1) / to ≤ n + to - 1 := Int.ediv_le_self _ (by omega)
      have hm : 0 ≤ (n + to - 1) / to * to := Int.mul_nonneg hd0 (by omega)
      rw [wrap_i64 (x := n + to) (by omega) (by omega), wrap_i64 (x := n + to - 1) (by omega) (by omega)]
      refine quo_i (by omega) ?_
      rw [Int.tdiv_eq_ediv_of_nonneg (by omega), wrap_i64 (x := (n + to - 1) / to) (by omega) (by omega), wrap_i64 (x := (n + to - 1) / to * to) (by omega) (by omega)]
      refine cond_i (fun h3 => ?_) (fun h3 => ?_)
      · rw [if_pos (by simpa using h3)] at hK; exact hK
      · rw [if_neg (by simpa using h3)] at hK; exact hK

/-- slices.Clone, at whatever element type. -/
theorem clone_shape {P : Program} {t e sz : Nat} {z : Value} [SliceTy P t e sz z] {o1 o2 : Operand} {s : Sl} {cs : List Value} {K : Sl → World → Prop} {w : World} (hs : Rd w s sz cs) (h1 : ∀ v ∈ cs, v.oneCell' = true) (hlen : s.len ≤ 68719476736)
    (hK : ∀ v w', Ext w w' → Own w' w.heap.size v sz cs → v.len = s.len → K v w') :
    semS P (binS .eql t o1 o2 (.slice s.a s.len s.cap) (.slice none 0 0)) (.one .bool) (fun x1 w =>
      cond x1 (K ⟨none, 0, 0⟩ w) (semS P (Instr.buildSlice t 0 #[]) (.one .slc) (fun x2 w =>
      semS P (Builtin.append_ #[t, t] t #[.slice x2.a x2.len x2.cap, .slice s.a s.len s.cap]) (.one .slc) (fun r3 w => K r3 w) w) w)) w := by
  refine eqNil_i ?_
  refine cond_i (fun h => ?_) (fun h => ?_)
  · have hn : s.a = none := by simpa using h
    have h0 := (hs.nil hn).1
    have hc : cs = [] := List.eq_nil_of_length_eq_zero (by rw [hs.len, h0]; simp)
    refine hK Sl.nil w (Fr.refl _ _) ?_ h0.symm
    rw [hc]; exact Own.nilSl _ _ _
  · refine buildSlice_i #[] (by simp [Instr.fill]) (by simp) (by omega) fun v w1 e1 o1 hl => ?_
    have hb : w.heap.size ≤ w1.heap.size := e1.size
    refine append_i o1 (hs.ext e1) h1 (by omega) hb fun v2 w2 f2 o2 hl2 hin => ?_
    have e2 : Ext w w2 := Ext.own e1 f2 fun i hi => (o1.inB hi).1
    exact hK v2 w2 e2 (by simpa using o2) (by omega)
theorem clone_s {s : Sl} {bs : List UInt8} {K : Sl → World → Prop} {w : World} (hs : Bts w s bs) (hlen : bs.length ≤ 68719476736) (hK : ∀ v w', Ext w w' → OwnB w' w.heap.size v bs → K v w') :
    callS Tryd.prog 35 #[.slice s.a s.len s.cap] [.one .slc] K w :=
  f35_ok (clone_shape hs bytes_one (by rw [Bts.len hs]; exact hlen) fun v w' h1 h2 _ => hK v w' h1 h2)

theorem cut_s {s : Sl} {bs : List UInt8} {off len : Int} {K : Sl → Int → World → Prop} {w : World} (hs : Bts w s bs) (hlen : bs.length ≤ 68719476736) (ho : S.I64 off) (hl : S.I64 len)
    (hK : ∀ v w', Ext w w' → OwnB w' w.heap.size v (S.cut bs off len).1 → K v (S.cut bs off len).2 w') :
    callS Tryd.prog 38 #[.slice s.a s.len s.cap, .int .i64 off, .int .i64 len] [.one .slc, .one (.int .i64)] K w := by
  refine f38_ok ?_
  unfold f38
  have hbl := Bts.len hs
  have hcap := hs.cap
  refine within_s ho hl (by constructor <;> omega) ?_
  unfold S.cut at hK
  rw [hbl]
  refine cond_i (fun h => ?_) (fun h => ?_)
  · have h' : S.within off len bs.length = false := by simpa using h
    rw [if_pos h'] at hK
    exact hK Sl.nil w (Fr.refl _ _) (Own.nilSl _ _ _)
  · have h' : S.within off len bs.length = true := by simpa using h
    rw [if_neg (by simp [h'])] at hK
    obtain ⟨h1, h2, h3, h4, h5⟩ := S.within_iff.1 h'
    rw [wrap_i64 (by omega) (by omega)]
    rw [← hbl]
    refine sl2_i (by omega) (by omega) (by omega) ?_
    have hc := Bts.cut hs (l := off.toNat) (hi := (off + len).toNat) (by omega) (by omega)
    rw [show (off + len).toNat - off.toNat = len.toNat by omega] at hc
    exact clone_s hc (by simp; omega) fun v w' e o => hK v w' e o

theorem orByte {n c : Nat} (hn : n * 256 + c < 18446744073709551616) (hc : c < 256) : orI .u64 (shlI .u64 (n : Int) 8) (IntKind.wrap .u64 (c : Int)) = ((n * 256 + c : Nat) : Int) := by
  have h1 : IntKind.wrap .u64 (c : Int) = c := wrap_u64 (by omega) (by omega)
  have h2 : IntKind.wrap .u64 ((n * 256 : Nat) : Int) = ((n * 256 : Nat) : Int) := wrap_u64 (by omega) (by omega)
  have h3 : ((n : Int) * 2 ^ (8 : Int).toNat) = ((n * 256 : Nat) : Int) := by simp
  have h4 : orI .u64 ((n * 256 : Nat) : Int) (c : Int) = ((n * 256 ||| c : Nat) : Int) := or_u64 (Nat.lt_of_le_of_lt (Nat.le_add_right _ _) hn) (Nat.lt_of_le_of_lt (Nat.le_add_left _ _) hn)
  have h5 : n * 256 ||| c = n * 256 + c := or_shift n c 8 hc
  rw [shlI_lit _ _ _ (by decide), h1, h3, h2, h4, h5]
/-- One byte appended. -/
theorem append1_i {P : Program} {t e : Nat} {z : Value} [SliceTy P t e 1 z] {s : Sl} {xs : List UInt8} {B : Nat} {K : Sl → World → Prop} {w : World} {n : Int} (b : UInt8) (hn : n = (b.toNat : Int)) (ho : OwnB w B s xs)
    (hlen : xs.length ≤ 68719476735) (hB : B ≤ w.heap.size) (hK : ∀ v w', Fr s.inB w w' → OwnB w' B v (xs ++ [b]) → (∀ k, v.inB k → s.inB k ∨ w.heap.size ≤ k) → K v w') :
    semS P (Instr.buildSlice t 1 #[(0, .int .u8 n)]) (.one .slc) (fun x w => semS P (Builtin.append_ #[t, t] t #[.slice s.a s.len s.cap, .slice x.a x.len x.cap]) (.one .slc) K w) w := by
  subst hn
  refine buildSlice_i (t := t) (e := e) (z := z) #[.int .u8 b.toNat] ?_ rfl (by omega) fun x w1 e1 o1 hl => ?_
  · have hr : ∀ (f : Nat → Value) (x : Value), ((Array.range 1).map f).setIfInBounds 0 x = #[x] := fun f x => by
      apply Array.ext
      · simp
      · intro i h1 h2
        have : i = 0 := by simp at h2; omega
        subst this; simp
    simp only [Instr.fill, Value.cells, Nat.mul_one, Nat.reduceMul]
    simp [hr]
  · have hx : Bts w1 x [b] := o1.rd
    refine appendB_i (Own.ext ho e1) hx (by simp; omega) (by have := e1.size; omega) fun v w2 f2 o2 hin => ?_
    refine hK v w2 (Fr.trans (Ext.fr e1) f2 (fun _ _ h => h)) o2 fun k hk => ?_
    rcases hin k hk with h | h
    · exact .inl h
    · have := e1.size; exact .inr (by omega)

theorem pad_s {s : Sl} {bs : List UInt8} {to : Int} {K : Sl → Int → World → Prop} {w : World} (hs : Bts w s bs) (hlen : bs.length ≤ 68719400000) (ht : S.I64 to)
    (hK : ∀ v w', Ext w w' → OwnB w' w.heap.size v (S.pad bs to).1 → K v (S.pad bs to).2 w') :
    callS Tryd.prog 29 #[.slice s.a s.len s.cap, .int .i64 to] [.one .slc, .one (.int .i64)] K w := by
  refine f29_ok ?_
  unfold f29
  have hbl := Bts.len hs
  refine align_s (by constructor <;> omega) ht ?_
  rw [show S.align (s.len : Int) to = S.align (bs.length : Int) to by rw [hbl]]
  unfold S.pad at hK
  refine cond_i (fun h => ?_) (fun h => ?_)
  · have h' : (S.align bs.length to).2 ≠ 0 := by simpa using h
    rw [if_pos h'] at hK
    exact hK Sl.nil w (Fr.refl _ _) (Own.nilSl _ _ _)
  · have h' : ¬ (S.align bs.length to).2 ≠ 0 := by simpa using h
    rw [if_neg h'] at hK
    have hal : (S.align bs.length to).2 = 0 → (bs.length : Int) ≤ (S.align bs.length to).1 ∧ (S.align bs.length to).1 ≤ bs.length + 65536 := by
      unfold S.align
      split
      · intro h; simp at h
      · rename_i h1
        split
        · intro h; simp at h
        · split
          · intro _
            have h2 := Int.mul_ediv_add_emod (bs.length + to - 1) to
            have h3 := Int.emod_nonneg ((bs.length : Int) + to - 1) (show to ≠ 0 by omega)
            have h4 := Int.emod_lt_of_pos ((bs.length : Int) + to - 1) (show 0 < to by omega)
            have h5 : to * (((bs.length : Int) + to - 1) / to) = ((bs.length : Int) + to - 1) / to * to := Int.mul_comm _ _
            simp only
            omega
          · intro h; simp at h
    obtain ⟨h1, h2⟩ := hal (by simpa using h')
    generalize (S.align bs.length to).1 = m at h1 h2 hK
    refine clone_s hs (by omega) fun v w1 e1 o1 => ?_
    have hvl := OwnB.len o1
    rw [show m - (s.len : Int) = m - (bs.length : Int) by rw [hbl], wrap_i64 (by omega) (by omega)]
    have hz0 : ∀ n, (Builtin.zeroCells (Value.int .u8 0).cells n).toList = List.replicate n (vB 0) := fun n => zeroCells_one _ n
    refine appendZ_i o1 (by omega) ?_ (by omega) e1.size fun v2 w2 f2 o2 hl2 hin => ?_
    · rw [hz0]; intro x hx; rw [List.eq_of_mem_replicate hx]; rfl
    · rw [hz0] at o2
      have e2 : Ext w w2 := Ext.own e1 f2 fun i hi => (o1.inB hi).1
      refine hK v2 w2 e2 ?_
      have : (m - (bs.length : Int)).toNat = m.toNat - bs.length := by omega
      rw [this] at o2
      unfold OwnB
      rw [List.map_append, List.map_replicate]; exact o2
end Go.Proofs.YtbmcbjmpogbmeaaDoor
