/- slices.Grow of nothing and slices.Concat, of bytes. -/
import Derived.Test.YtbmcbjmpogbmeaaDoorSh
import Derived.Test.YtbmcbjmpogbmeaaDoorTy
import Derived.Test.YtbmcbjmpogbmeaaDoorLib7
import Derived.Test.YtbmcbjmpogbmeaaDoorSpan
set_option linter.unusedSimpArgs false
set_option linter.unusedVariables false
namespace Go.Proofs.YtbmcbjmpogbmeaaDoor
open Go Go.Eng
theorem growNil_s {n : Nat} {K : Sl → World → Prop} {w : World} (hn : n ≤ 68719476736) (hK : ∀ v w', Ext w w' → OwnB w' w.heap.size v [] → K v w') :
    callS Tryd.prog 49 #[.slice none 0 0, .int .i64 (n : Int)] [.one .slc] K w := by
  refine f49_ok (p0 := Sl.nil) ?_
  unfold f49
  have hz : IntKind.wrap .i64 ((n : Int) - (IntKind.wrap .i64 ((Sl.nil.cap : Int) - (Sl.nil.len : Int)))) = (n : Int) := by
    have e : IntKind.wrap .i64 ((Sl.nil.cap : Int) - (Sl.nil.len : Int)) = 0 := by decide
    rw [e, Int.sub_zero, wrap_i64 (by omega) (by omega)]
  rw [hz]
  refine join_i (fun _ w' => w = w') ?_ fun J hJ => cond_i (fun h => ?_) (fun h => hJ () _ rfl)
  rotate_left
  · have : (n : Int) < 0 := of_decide_eq_true h
    omega
  rintro _ w' rfl
  refine cond_i (fun h => ?_) (fun h => hK Sl.nil w (Fr.refl _ _) (Own.nilSl _ _ _))
  refine slHi_i (s := Sl.nil) (hi := ((Sl.nil.cap : Nat) : Int)) (by decide) (by decide) ?_
  have hc : Sl.nil.cut 1 0 ((Sl.nil.cap : Nat) : Int).toNat = Sl.nil := rfl
  rw [hc]
  refine appendZB_i (bs := []) (B := w.heap.size) (Own.nilSl w _ 1) (by omega) (by simp; omega) (Nat.le_refl _) fun v w1 f1 o1 hin => ?_
  refine slHi_i (s := v) (hi := ((Sl.nil.len : Nat) : Int)) (by decide) (by have h0 : ((Sl.nil.len : Nat) : Int) = 0 := rfl
                                                                            omega) ?_
  have e1 : Ext w w1 := Ext.own (Fr.refl _ w) f1 fun i hi => by obtain ⟨a, ha, _⟩ := hi; cases ha
  exact hK (v.cut 1 0 0) w1 e1 (Own.cut0 o1)
theorem concat_s {s : Sl} {xs : List (Sl × List UInt8)} {K : Sl → World → Prop} {w : World} (h : Parts w s xs) (hx : xs.length ≤ 100000) (hl : (flatB xs).length ≤ 68719400000) (hK : ∀ v w', Ext w w' → OwnB w' w.heap.size v (flatB xs) → K v w') :
    callS Tryd.prog 32 #[.slice s.a s.len s.cap] [.one .slc] K w := by
  refine f32_ok ?_
  unfold f32
  have hsl := h.len
  refine loop_i (fun (st : Int × Int) w' => w = w' ∧ ∃ i : Nat, i ≤ xs.length ∧ st = (((flatB (xs.take i)).length : Int), (i : Int))) (fun st _ => xs.length - st.2.toNat) ⟨rfl, 0, by omega, rfl⟩ ?_
  rintro st w' again ⟨rfl, i, hi, rfl⟩ hag
  dsimp only
  refine cond_i (fun hlt => ?_) (fun hge => ?_)
  · have hi' : i < xs.length := by have : (i : Int) < (s.len : Int) := of_decide_eq_true hlt
                                   omega
    refine part_i h (by omega) (by rw [Int.toNat_natCast]; exact hi') ?_
    simp only [Int.toNat_natCast]
    have hbl := Bts.len (h.each _ (List.getElem_mem hi'))
    have hsn := flatB_snoc hi'
    have hle := flatB_take_le xs (i + 1)
    rw [hsn, List.length_append] at hle
    refine cond_i (fun hc => ?_) (fun _ => ?_)
    · have h0 : IntKind.wrap .i64 (((flatB (xs.take i)).length : Int) + (xs[i].1.len : Int)) < 0 := of_decide_eq_true hc
      rw [wrap_i64 (by omega) (by omega)] at h0
      omega
    · rw [wrap_i64 (by omega) (by omega), wrap_i64 (x := (i : Int) + 1) (by omega) (by omega)]
      refine hag _ _ ⟨rfl, i + 1, by omega, ?_⟩ ?_
      · rw [hsn, List.length_append, hbl, Int.natCast_add]; rfl
      · show xs.length - ((i : Int) + 1).toNat < xs.length - ((i : Int)).toNat
        omega
  · have hi' : i = xs.length := by have : ¬ (i : Int) < (s.len : Int) := of_decide_eq_false hge
                                   omega
    subst hi'
    rw [List.take_length]
    refine growNil_s (by omega) fun v w1 e1 o1 => ?_
    refine loop_i (fun (st : Sl × Int) w' => Ext w w' ∧ ∃ i : Nat, i ≤ xs.length ∧ st.2 = i ∧ OwnB w' w.heap.size st.1 (flatB (xs.take i))) (fun st _ => xs.length - st.2.toNat) ⟨e1, 0, by omega, rfl, o1⟩ ?_
    rintro ⟨r, i'⟩ w2 again2 ⟨e2, i, hi, hi2, o2⟩ hag2
    dsimp only at hi2 o2 ⊢
    subst hi2
    refine cond_i (fun hlt => ?_) (fun hge => ?_)
    · have hi' : i < xs.length := by have : (i : Int) < (s.len : Int) := of_decide_eq_true hlt
                                     omega
      have h2 := h.ext e2
      refine part_i h2 (by omega) (by rw [Int.toNat_natCast]; exact hi') ?_
      simp only [Int.toNat_natCast]
      have hb := h2.each _ (List.getElem_mem hi')
      have hsn := flatB_snoc hi'
      have hle := flatB_take_le xs (i + 1)
      rw [hsn, List.length_append] at hle
      refine appendB_i o2 hb (by omega) e2.size fun v3 w3 f3 o3 hin => ?_
      rw [wrap_i64 (x := (i : Int) + 1) (by omega) (by omega)]
      refine hag2 _ w3 ⟨Ext.own e2 f3 fun i hi => (o2.inB hi).1, i + 1, by omega, by omega, by rw [hsn]; exact o3⟩ ?_
      show xs.length - ((i : Int) + 1).toNat < xs.length - ((i : Int)).toNat
      omega
    · have hi' : i = xs.length := by have : ¬ (i : Int) < (s.len : Int) := of_decide_eq_false hge
                                     omega
      subst hi'
      rw [List.take_length] at o2
      exact hK r w2 e2 o2
theorem equal_s {s t : Sl} {xs ys : List UInt8} {K : Bool → World → Prop} {w : World} (hs : Bts w s xs) (ht : Bts w t ys) (hK : K (xs == ys) w) : callS Tryd.prog 34 #[.slice s.a s.len s.cap, .slice t.a t.len t.cap] [.one .bool] K w := by
  refine f34_ok ?_
  unfold f34
  refine b2s_i hs ?_
  refine b2s_i ht ?_
  simp only [str_toList]
  exact hK
end Go.Proofs.YtbmcbjmpogbmeaaDoor
