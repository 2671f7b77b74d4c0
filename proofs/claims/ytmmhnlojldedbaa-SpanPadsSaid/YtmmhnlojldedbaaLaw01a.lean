/- The laws of layer 1 over the contracts. -/
import Derived.Test.YtmmhnlojldedbaaSpan
set_option linter.unusedSimpArgs false
set_option linter.unusedVariables false
namespace Go.Proofs.Ytmmhnlojldedbaa
open Go Go.Eng

theorem anchor_s {K : Bool → World → Prop} {w : World} (hK : ∀ w', Ext w w' → K true w') : callS Try.prog 11 #[] [.one .bool] K w := by
  refine f11_ok ?_
  unfold f11
  refine put_s (s := Sl.nil) (bs := []) (Rd.nilSl _ _) (by simp) (by constructor <;> omega) (by constructor <;> omega) fun v w1 e1 o1 => ?_
  have hp : S.put [] 3 258 = ([0, 1, 2], 0) := by decide
  rw [hp] at o1 ⊢
  refine align_s (by constructor <;> omega) (by constructor <;> omega) ?_
  have ha : S.align 65 64 = (128, 0) := by decide
  rw [ha]
  refine join_i (fun b w' => b = true ∧ w' = w1) ?_ fun J1 hJ1 => ?_
  · rintro b w' ⟨rfl, rfl⟩
    refine join_i (fun b w'' => b = true ∧ w'' = w') ?_ fun J2 hJ2 => ?_
    · rintro b w'' ⟨rfl, rfl⟩
      exact hK _ e1
    · refine cond_i (fun _ => ?_) (fun h => by cases h)
      refine within_s (by constructor <;> omega) (by constructor <;> omega) (by constructor <;> omega) ?_
      exact hJ2 _ _ ⟨by decide, rfl⟩
  · refine cond_i (fun _ => ?_) (fun h => by cases h)
    refine b2s_i o1.rd ?_
    refine hJ1 _ _ ⟨?_, rfl⟩
    rw [str_toList, ByteArray.toList_eq]
    rfl

theorem SpanAligns_s {n to : Int} {K : Bool → World → Prop} {w : World} (hn : S.I64 n) (ht : S.I64 to) (hK : ∀ w', Ext w w' → K true w') :
    callS Try.prog 3 #[.int .i64 n, .int .i64 to] [.one .bool] K w := by
  refine f3_ok ?_
  unfold f3
  refine anchor_s fun w1 e1 => ?_
  refine align_s hn ht ?_
  have hK' : ∀ b, b = true → K b w1 := fun b hb => hb ▸ hK _ e1
  unfold S.align
  refine cond_i (fun h => ?_) (fun h => ?_)
  · rw [if_pos (by simp only [Bool.or_eq_true, decide_eq_true_eq] at h; omega)]; exact hK' _ rfl
  · have h1 : ¬ (n < 0 ∨ to < 1 ∨ to > 65536) := by simp only [Bool.or_eq_false_iff, decide_eq_false_iff_not] at h; omega
    rw [if_neg h1]
    refine cond_i (fun h => ?_) (fun h => ?_)
    · rw [if_pos (by simpa using h)]; exact hK' _ rfl
    · have h2 : ¬ n > 4611686018427387904 := by simpa using h
      rw [if_neg h2]
      have hm0 : 0 ≤ n % to := Int.emod_nonneg _ (by omega)
      have hm1 : n % to < to := Int.emod_lt_of_pos _ (by omega)
      have hme : to * (n / to) + n % to = n := Int.mul_ediv_add_emod n to
      generalize hq : n / to = q at hme
      generalize hr : n % to = r at hme hm0 hm1
      have key : (n + to - 1) / to * to = n + (if r = 0 then 0 else to - r) := by
        have hc : to * q = q * to := Int.mul_comm _ _
        split
        · rename_i h0
          have : n + to - 1 = (to - 1) + q * to := by omega
          rw [this, Int.add_mul_ediv_right _ _ (by omega), Int.ediv_eq_zero_of_lt (by omega) (by omega), Int.zero_add]
          omega
        · have : n + to - 1 = (r - 1) + (q + 1) * to := by rw [Int.add_mul]; omega
          rw [this, Int.add_mul_ediv_right _ _ (by omega), Int.ediv_eq_zero_of_lt (by omega) (by omega), Int.zero_add, Int.add_mul]
          omega
      rw [key]
      have htm : n.tmod to = r := by rw [Int.tmod_eq_emod_of_nonneg (by omega), hr]
      refine join_i (fun x w' => w' = w1 ∧ x = (if r = 0 then 0 else to - r)) ?_ fun J hJ => ?_
      · rintro x w' ⟨rfl, hx⟩
        rw [← hx]
        have hx0 : 0 ≤ x ∧ x < to := by rw [hx]; split <;> omega
        have hxr : (n + x) % to = 0 := by
          rw [hx]
          split
          · rename_i h0; rw [Int.add_zero, hr, h0]
          · have : n + (to - r) = 0 + (q + 1) * to := by rw [Int.add_mul, Int.mul_comm q]; omega
            rw [this, Int.add_mul_emod_self_right]; rfl
        rw [wrap_i64 (x := 4611686018427387904 - n) (by omega) (by omega), wrap_i64 (x := n + x) (by omega) (by omega)]
        refine cond_i (fun h => ?_) (fun h => ?_)
        · rw [if_neg (by simp at h; omega)]; exact hK' _ rfl
        · rw [if_pos (by simp at h; omega)]
          refine join_i (fun b w2 => w2 = w' ∧ b = true) ?_ fun J2 hJ2 => ?_
          · rintro b w' ⟨rfl, rfl⟩; exact hK' _ rfl
          · refine cond_i (fun h => ?_) (fun h => by simp at h)
            refine rem_i (by omega) ?_
            refine hJ2 _ _ ⟨rfl, ?_⟩
            rw [Int.tmod_eq_emod_of_nonneg (by simp only; omega)]
            simpa using hxr
      · refine rem_i (by omega) ?_
        rw [htm]
        refine cond_i (fun h => ?_) (fun h => ?_)
        · refine rem_i (by omega) ?_
          rw [htm, wrap_i64 (by omega) (by omega)]
          refine hJ _ _ ⟨rfl, ?_⟩
          rw [if_neg (by simpa using h)]
        · refine hJ _ _ ⟨rfl, ?_⟩
          rw [if_pos (by simpa using h)]
end Go.Proofs.Ytmmhnlojldedbaa
