/- Layer 3 (long sums): the document's padding. -/
import Derived.Test.YtjlmaamhnkhokaaDoorSum03e
set_option linter.unusedSimpArgs false
set_option linter.unusedVariables false
namespace Go.S.L
open Go Go.Eng
theorem be16 {m : Nat} (h : m < 18446744073709551616) : be 16 m = List.replicate 8 0 ++ be 8 m := by
  have h8 := be_shift 7 8 m
  have key : ∀ (j k : Nat), m / 256 ^ k = 0 → be j (m / 256 ^ k) = List.replicate j 0 := by
    intro j k hk
    rw [hk]
    have : ∀ j, be j 0 = List.replicate j 0 := fun j => by
      induction j with
      | zero => rfl
      | succ j ih =>
        have := be_shift j 0 0
        simp only [Nat.pow_zero, Nat.div_one, Nat.zero_div] at this
        rw [this, ih, List.replicate_succ']; rfl
    exact this j
  have split : ∀ (n k : Nat), be (n + k) m = be n (m / 256 ^ k) ++ be k m := by
    intro n k
    induction k generalizing n with
    | zero => simp [be]
    | succ k ih =>
      rw [show n + (k + 1) = (n + 1) + k by omega, ih (n + 1), be_shift n k m, List.append_assoc]
      congr 1
      have := ih 1
      rw [show 1 + k = k + 1 by omega] at this
      rw [this, be_shift 0 k m]
      simp [be]
  rw [show 16 = 8 + 8 by rfl, split 8 8, key 8 8 (by omega)]
end Go.S.L
namespace Go.Proofs.YtjlmaamhnkhokaaDoor.L
open Go Go.Eng

theorem gap2 (n : Nat) : S.L.sh3.gap n = (240 - (n + 1) % 128) % 128 := rfl
theorem padded_s {s : Sl} {bs : List UInt8} {K : Sl → World → Prop} {w : World} (hs : Bts w s bs) (hlen : bs.length ≤ 1000000000) (hK : ∀ v w', Ext w w' → OwnB w' w.heap.size v (S.L.sh3.padded bs) → K v w') :
    callS Tryd.prog 16 #[.slice s.a s.len s.cap] [.one .slc] K w := by
  refine f16_ok ?_
  unfold f16
  have hbl := Bts.len hs
  refine copyV_i hs bytes_one (by omega) fun v1 w1 e1 o1 => ?_
  refine append1_i (b := 128) (by decide) o1 (by omega) e1.size fun v2 w2 f2 o2 _ => ?_
  have e2 : Ext w w2 := Ext.own e1 f2 fun i hi => (Own.inB o1 hi).1
  refine loop_i (fun (x : Sl) w' => ∃ j : Nat, j ≤ S.L.sh3.gap bs.length ∧ Ext w w' ∧ OwnB w' w.heap.size x (bs ++ [128] ++ List.replicate j 0)) (fun x _ => bs.length + 1 + S.L.sh3.gap bs.length - x.len) ⟨0, by omega, e2, by simpa using o2⟩ ?_
  rintro v3 w3 again ⟨j, hj, e3, o3⟩ hag
  have hvl := OwnB.len o3
  simp only [List.length_append, List.length_cons, List.length_nil, List.length_replicate] at hvl
  have hg := gap2 bs.length
  have htm : Int.tmod (v3.len : Int) 128 = ((v3.len % 128 : Nat) : Int) := by rw [Int.tmod_eq_emod_of_nonneg (by omega)]; rfl
  rw [htm]
  refine cond_i (fun h => ?_) (fun h => ?_)
  · have hne : v3.len % 128 ≠ 112 := by simp at h; omega
    have hj' : j < S.L.sh3.gap bs.length := by omega
    refine append1_i (b := 0) (by decide) o3 (by simp; omega) e3.size fun v4 w4 f4 o4 _ => ?_
    have hv4 := OwnB.len o4
    simp only [List.length_append, List.length_cons, List.length_nil, List.length_replicate] at hv4
    refine hag _ w4 ⟨j + 1, by omega, Ext.own e3 f4 fun i hi => (o3.inB hi).1, ?_⟩ ?_
    · rw [List.replicate_succ', ← List.append_assoc]; exact o4
    · omega
  · have he : v3.len % 128 = 112 := by simp at h; omega
    have hj' : j = S.L.sh3.gap bs.length := by omega
    subst hj'
    rw [show (IntKind.wrap .u64 ((IntKind.wrap .u64 (s.len : Int)) * 8)) = ((8 * bs.length : Nat) : Int) by rw [wrap_u64 (x := (s.len : Int)) (by omega) (by omega), wrap_u64 (by omega) (by omega)]; omega]
    have hprl : (bs ++ [128] ++ List.replicate (S.L.sh3.gap bs.length) 0).length ≤ 1000000200 := by simp; omega
    have hpad : S.L.sh3.padded bs = bs ++ [128] ++ List.replicate (S.L.sh3.gap bs.length) 0 ++ List.replicate 8 0 ++ S.be 8 (8 * bs.length) := by
      show bs ++ [128] ++ List.replicate (S.L.sh3.gap bs.length) 0 ++ S.be 16 (8 * bs.length) = _
      rw [S.L.be16 (by omega)]; simp
    generalize bs ++ [128] ++ List.replicate (S.L.sh3.gap bs.length) 0 = pre0 at o3 hprl hpad
    clear hag
    refine loop_i (fun (x : Sl × Int) w' => ∃ k : Nat, k ≤ 8 ∧ x.2 = (k : Int) ∧ Ext w w' ∧ OwnB w' w.heap.size x.1 (pre0 ++ List.replicate k 0)) (fun x _ => (8 - x.2).toNat) ⟨0, by omega, rfl, e3, by simpa using o3⟩ ?_
    rintro ⟨v9, i9⟩ w9 again9 ⟨k9, hk9, hi9, e9, o9⟩ hag9
    dsimp only at hi9 o9 ⊢
    subst hi9
    refine cond_i (fun hlt9 => ?_) (fun hge9 => ?_)
    · have hk91 : k9 < 8 := by simp at hlt9; omega
      refine append1_i (b := 0) (by decide) o9 (by simp; omega) e9.size fun v10 w10 f10 o10 _ => ?_
      refine hag9 _ w10 ⟨k9 + 1, by omega, ?_, Ext.own e9 f10 fun i hi => (o9.inB hi).1, ?_⟩ ?_
      · simp only [wrap_i64 (x := (k9 : Int) + 1) (by omega) (by omega)]; omega
      · rw [List.replicate_succ', ← List.append_assoc]; exact o10
      · simp only [wrap_i64 (x := (k9 : Int) + 1) (by omega) (by omega)]; omega
    have hk98 : k9 = 8 := by simp at hge9; omega
    subst hk98
    have hprl9 : (pre0 ++ List.replicate 8 (0 : UInt8)).length ≤ 1000000300 := by simp; omega
    generalize pre0 ++ List.replicate 8 (0 : UInt8) = pre at o9 hprl9 hpad
    refine loop_i (fun (x : Sl × Int) w' => ∃ k : Nat, k ≤ 8 ∧ x.2 = (k : Int) - 1 ∧ Ext w w' ∧ OwnB w' w.heap.size x.1 (pre ++ S.be (8 - k) (8 * bs.length / 256 ^ k))) (fun x _ => (x.2 + 1).toNat) ⟨8, by omega, by simp, e9, by simpa [S.be] using o9⟩ ?_
    rintro ⟨v4, i⟩ w4 again2 ⟨k, hk, hi, e4, o4⟩ hag2
    dsimp only at hi o4 ⊢
    subst hi
    refine cond_i (fun hlt => ?_) (fun hge => ?_)
    · have hk1 : 1 ≤ k := by simp at hlt; omega
      refine shr_i (by rw [wrap_i64 (by omega) (by omega)]; omega) ?_
      have hsh : shrI .u64 ((8 * bs.length : Nat) : Int) (IntKind.wrap .i64 (8 * ((k : Int) - 1))) = ((8 * bs.length / 256 ^ (k - 1) : Nat) : Int) := by
        rw [wrap_i64 (by omega) (by omega), shrI_lit _ _ _ (by show (8 * ((k : Int) - 1)).toNat ≤ 64; omega), show (8 * ((k : Int) - 1)).toNat = 8 * (k - 1) by omega, Int.pow_mul]
        simp
      rw [hsh]
      refine append1_i (UInt8.ofNat (8 * bs.length / 256 ^ (k - 1))) ?_ o4 (by simp [S.be_length]; omega) e4.size fun v5 w5 f5 o5 _ => ?_
      · rw [wrap_u8_mod]; simp
      · refine hag2 _ w5 ⟨k - 1, by omega, ?_, Ext.own e4 f5 fun i hi => (o4.inB hi).1, ?_⟩ ?_
        · simp only [wrap_i64 (x := (k : Int) - 1 - 1) (by omega) (by omega)]; omega
        · have hsft := S.be_shift (8 - k) (k - 1) (8 * bs.length)
          rw [show k - 1 + 1 = k by omega, show 8 - k + 1 = 8 - (k - 1) by omega] at hsft
          rw [hsft, ← List.append_assoc]; exact o5
        · simp only [wrap_i64 (x := (k : Int) - 1 - 1) (by omega) (by omega)]; omega
    · have hk0 : k = 0 := by simp at hge; omega
      subst hk0
      exact hK v4 w4 e4 (by rw [hpad]; simpa using o4)
end Go.Proofs.YtjlmaamhnkhokaaDoor.L
