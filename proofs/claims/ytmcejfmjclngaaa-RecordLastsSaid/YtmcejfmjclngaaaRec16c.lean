/- Layer 16 (record): a record's bytes, written and read. -/
import Derived.Test.YtmcejfmjclngaaaLaw16b
set_option linter.unusedSimpArgs false
set_option linter.unusedVariables false
namespace Go.Proofs.Ytmcejfmjclngaaa
open Go Go.Eng

theorem ixH_i {P : Program} {w : World} {t k e : Nat} [ArrTy P t k e 3] [AggTy P e 3] {a b : S.Half} {i : Int} (h : S.Half) {K : Int → Int → Bool → World → Prop} (h0 : 0 ≤ i) (h1 : i < k) (he : ((rls a b).drop (i.toNat * 3)).take 3 = hls h) (hK : K h.p h.t h.g w) :
    semS P (Instr.index t (.agg #[.int .i64 a.p, .int .i64 a.t, .bool a.g, .int .i64 b.p, .int .i64 b.t, .bool b.g]) (.int .i64 i)) (.agg lH) K w := by
  refine ixV_i (cs := rls a b) (ls := lH) h0 h1 ?_
  rw [he]; exact hK

theorem right_s {h : S.Half} {K : Bool → World → Prop} {w : World} (hK : ∀ w', Ext w w' → K h.right w') : callS Try.prog 39 #[.agg #[.int .i64 h.p, .int .i64 h.t, .bool h.g]] [.one .bool] K w := by
  refine f39_ok ?_
  unfold f39
  refine box_i fun g w1 e1 hg v1 => ?_
  refine ld1_i h.p v1 rfl ?_
  refine join_i (fun c w' => w' = w1 ∧ c = (decide (h.p ≥ 0) && decide (h.p ≤ 15))) ?_ fun J hJ => ?_
  · rintro c w' ⟨rfl, rfl⟩
    refine join_i (fun c w'' => w'' = w' ∧ c = (decide (h.p ≥ 0) && decide (h.p ≤ 15) && decide (h.t ≥ 0))) ?_ fun J hJ => ?_
    · rintro c w'' ⟨rfl, rfl⟩
      refine join_i (fun c w' => w' = w'' ∧ c = (decide (h.p ≥ 0) && decide (h.p ≤ 15) && decide (h.t ≥ 0) && decide (h.t ≤ 7))) ?_ fun J hJ => ?_
      · rintro c w' ⟨rfl, rfl⟩
        refine join_i (fun c w'' => w'' = w' ∧ c = h.right) ?_ fun J hJ => ?_
        · rintro c w'' ⟨rfl, rfl⟩; exact hK _ e1
        · refine cond_i (fun hc => ?_) (fun hc => hJ _ _ ⟨rfl, by simp only [S.Half.right, hc, Bool.false_and]⟩)
          refine ld1_i h.g v1 rfl ?_
          refine join_i (fun c w'' => w'' = w' ∧ c = (h.g && decide (h.t > 0))) ?_ fun J2 hJ2 => ?_
          · rintro c w'' ⟨rfl, rfl⟩
            exact hJ _ _ ⟨rfl, by simp only [S.Half.right, hc, Bool.true_and]⟩
          · refine cond_i (fun hc => ?_) (fun hc => hJ2 _ _ ⟨rfl, by simp [hc]⟩)
            refine ld1_i h.t v1 rfl ?_
            exact hJ2 _ _ ⟨rfl, by simp [hc]⟩
      · refine cond_i (fun hc => ?_) (fun hc => hJ _ _ ⟨rfl, by simp only [hc, Bool.false_and]⟩)
        refine ld1_i h.t v1 rfl ?_
        exact hJ _ _ ⟨rfl, by simp only [hc, Bool.true_and]⟩
    · refine cond_i (fun hc => ?_) (fun hc => hJ _ _ ⟨rfl, by simp only [hc, Bool.false_and]⟩)
      refine ld1_i h.t v1 rfl ?_
      exact hJ _ _ ⟨rfl, by simp only [hc, Bool.true_and]⟩
  · refine cond_i (fun hc => ?_) (fun hc => hJ _ _ ⟨rfl, by simp only [hc, Bool.false_and]⟩)
    refine ld1_i h.p v1 rfl ?_
    exact hJ _ _ ⟨rfl, by simp only [hc, Bool.true_and]⟩
theorem refRight_s {h : S.Half} {K : Bool → World → Prop} {w : World} (hK : ∀ w', Ext w w' → K h.right w') : callS Try.prog 40 #[.agg #[.int .i64 h.p, .int .i64 h.t, .bool h.g]] [.one .bool] K w := by
  refine f40_ok ?_
  unfold f40
  refine box_i fun g w1 e1 hg v1 => ?_
  refine ld1_i h.p v1 rfl ?_
  refine join_i (fun c w' => w' = w1 ∧ c = (decide (h.p ≥ 0) && decide (h.p ≤ 15))) ?_ fun J hJ => ?_
  · rintro c w' ⟨rfl, rfl⟩
    refine join_i (fun c w'' => w'' = w' ∧ c = (decide (h.p ≥ 0) && decide (h.p ≤ 15) && decide (h.t ≥ 0))) ?_ fun J hJ => ?_
    · rintro c w'' ⟨rfl, rfl⟩
      refine join_i (fun c w' => w' = w'' ∧ c = (decide (h.p ≥ 0) && decide (h.p ≤ 15) && decide (h.t ≥ 0) && decide (h.t ≤ 7))) ?_ fun J hJ => ?_
      · rintro c w' ⟨rfl, rfl⟩
        refine join_i (fun c w'' => w'' = w' ∧ c = h.right) ?_ fun J hJ => ?_
        · rintro c w'' ⟨rfl, rfl⟩; exact hK _ e1
        · refine cond_i (fun hc => ?_) (fun hc => hJ _ _ ⟨rfl, by simp only [S.Half.right, hc, Bool.false_and]⟩)
          have ht0 : 0 ≤ h.t := by simp only [Bool.and_eq_true, decide_eq_true_eq] at hc; omega
          refine ld1_i h.g v1 rfl ?_
          refine join_i (fun c w'' => w'' = w' ∧ c = !(h.g && decide (h.t > 0))) ?_ fun J2 hJ2 => ?_
          · rintro c w'' ⟨rfl, rfl⟩
            exact hJ _ _ ⟨rfl, by simp only [S.Half.right, hc, Bool.true_and]⟩
          · refine cond_i (fun hc => hJ2 _ _ ⟨rfl, by simp at hc; simp [hc]⟩) (fun hc => ?_)
            refine ld1_i h.t v1 rfl ?_
            refine hJ2 _ _ ⟨rfl, ?_⟩
            have hg : h.g = true := by simpa using hc
            rw [hg, Bool.true_and, Bool.eq_iff_iff]
            have : ∀ x : Int, 0 ≤ x → ((x == 0) = true ↔ (!decide (x > 0)) = true) := fun x hx => by simp; omega
            exact this h.t ht0
      · refine cond_i (fun hc => ?_) (fun hc => hJ _ _ ⟨rfl, by simp only [hc, Bool.false_and]⟩)
        refine ld1_i h.t v1 rfl ?_
        exact hJ _ _ ⟨rfl, by simp only [hc, Bool.true_and]⟩
    · refine cond_i (fun hc => ?_) (fun hc => hJ _ _ ⟨rfl, by simp only [hc, Bool.false_and]⟩)
      refine ld1_i h.t v1 rfl ?_
      exact hJ _ _ ⟨rfl, by simp only [hc, Bool.true_and]⟩
  · refine cond_i (fun hc => ?_) (fun hc => hJ _ _ ⟨rfl, by simp only [hc, Bool.false_and]⟩)
    refine ld1_i h.p v1 rfl ?_
    exact hJ _ _ ⟨rfl, by simp only [hc, Bool.true_and]⟩
theorem rightR_s {a b : S.Half} {K : Bool → World → Prop} {w : World} (hK : ∀ w', Ext w w' → K (a.right && b.right) w') :
    callS Try.prog 23 #[.agg #[.int .i64 a.p, .int .i64 a.t, .bool a.g, .int .i64 b.p, .int .i64 b.t, .bool b.g]] [.one .bool] K w := by
  refine f23_ok ?_
  unfold f23
  refine box_i fun g w1 e1 hg v1 => ?_
  refine ldH_i a v1 rfl ?_
  refine right_s fun w2 e2 => ?_
  refine join_i (fun c w' => Ext w1 w' ∧ c = (a.right && b.right)) ?_ fun J hJ => ?_
  · rintro c w' ⟨e, rfl⟩; exact hK _ (e1.trans e)
  · refine cond_i (fun hc => ?_) (fun hc => hJ _ _ ⟨e2, by simp only [hc, Bool.false_and]⟩)
    refine ldH_i b (v1.ext e2) rfl ?_
    refine right_s fun w3 e3 => ?_
    exact hJ _ _ ⟨e2.trans e3, by simp only [hc, Bool.true_and]⟩
theorem refRightR_s {a b : S.Half} {K : Bool → World → Prop} {w : World} (hK : ∀ w', Ext w w' → K (a.right && b.right) w') :
    callS Try.prog 24 #[.agg #[.int .i64 a.p, .int .i64 a.t, .bool a.g, .int .i64 b.p, .int .i64 b.t, .bool b.g]] [.one .bool] K w := by
  refine f24_ok ?_
  unfold f24
  refine box_i fun g w1 e1 hg v1 => ?_
  refine ldH_i a v1 rfl ?_
  refine refRight_s fun w2 e2 => ?_
  refine join_i (fun c w' => Ext w1 w' ∧ c = (a.right && b.right)) ?_ fun J hJ => ?_
  · rintro c w' ⟨e, rfl⟩; exact hK _ (e1.trans e)
  · refine cond_i (fun hc => ?_) (fun hc => hJ _ _ ⟨e2, by simp only [hc, Bool.false_and]⟩)
    refine ldH_i b (v1.ext e2) rfl ?_
    refine refRight_s fun w3 e3 => ?_
    exact hJ _ _ ⟨e2.trans e3, by simp only [hc, Bool.true_and]⟩

theorem bytes_s {a b : S.Half} {K : Sl → World → Prop} {w : World} (hK : ∀ v w', Ext w w' → OwnB w' w.heap.size v (S.recB a b) → K v w') :
    callS Try.prog 37 #[.agg #[.int .i64 a.p, .int .i64 a.t, .bool a.g, .int .i64 b.p, .int .i64 b.t, .bool b.g]] [.one .slc] K w := by
  refine f37_ok ?_
  unfold f37
  refine box_i fun g w1 e1 hg v1 => ?_
  refine bytesConst_i [0, 65, 66, 48] (by kernel_rfl) rfl (by omega) fun x w2 e2 o2 => ?_
  refine append1_i (b := 1) (by decide) o2 (by decide) e2.size fun x3 w3 f3 o3 hin => ?_
  have e13 : Ext w1 w3 := Ext.own e2 f3 fun i hi => (o2.inB hi).1
  refine ldH_i a (v1.ext e13) rfl ?_
  refine ldH_i b (v1.ext e13) rfl ?_
  refine loop_i (fun (s : Sl × Int) w' => ∃ j : Nat, j ≤ 2 ∧ s.2 = j ∧ Ext w1 w' ∧ OwnB w' w1.heap.size s.1 (S.rhead ++ ([a, b].take j).flatMap S.hb)) (fun s _ => 2 - s.2.toNat) ⟨0, by omega, rfl, e13, by simpa [S.rhead] using o3⟩ ?_
  rintro ⟨s, i⟩ w4 again ⟨j, hj, hi, e4, o4⟩ hag
  dsimp only at hi o4 ⊢
  subst hi
  have hll : (S.rhead ++ ([a, b].take j).flatMap S.hb).length = 5 + 4 * j := by
    have : j = 0 ∨ j = 1 ∨ j = 2 := by omega
    rcases this with rfl | rfl | rfl <;> rfl
  have hvl := OwnB.len o4
  rw [hll] at hvl
  refine cond_i (fun hlt => ?_) (fun hge => ?_)
  · have hj2 : j < 2 := by simp at hlt; omega
    obtain ⟨h, hh, ht⟩ : ∃ h, ((rls a b).drop (((j : Int)).toNat * 3)).take 3 = hls h ∧ [a, b].take (j + 1) = [a, b].take j ++ [h] := by
      have : j = 0 ∨ j = 1 := by omega
      rcases this with rfl | rfl
      · exact ⟨a, rfl, rfl⟩
      · exact ⟨b, rfl, rfl⟩
    refine ixH_i h (by omega) (by omega) hh ?_
    refine alloc_i fun g5 w5 e5 hg5 v5 => ?_
    refine stH_i 0 v5 (by decide) fun w6 f6 v6 => ?_
    have e46 := Fr.own1 e5 f6 hg5
    refine join_i (fun x w' => w' = w6 ∧ x = ((if h.g then (1 : UInt8) else 0).toNat : Int)) ?_ fun J hJ => ?_
    · rintro x w' ⟨rfl, rfl⟩
      refine ld1_i h.p v6 rfl ?_
      refine ld1_i h.t v6 rfl ?_
      rw [wrap_u8_b, wrap_u8_b]
      refine buildB_i (S.hb h) rfl rfl (by omega) fun y w7 e7 o7 => ?_
      have e17 := (e4.trans e46).trans e7
      have o47 := (o4.ext e46).ext e7
      refine appendB_i o47 o7.rd (by rw [hll]; simp [S.hb]; omega) e17.size fun y8 w8 f8 o8 _ => ?_
      refine hag _ w8 ⟨j + 1, by omega, ?_, Ext.own e17 f8 fun i hi => (o47.inB hi).1, ?_⟩ ?_
      · simp only [wrap_i64 (x := (j : Int) + 1) (by omega) (by omega)]; omega
      · rw [ht, List.flatMap_append, ← List.append_assoc]
        simpa using o8
      · simp only [wrap_i64 (x := (j : Int) + 1) (by omega) (by omega)]; omega
    · refine ld1_i h.g v6 rfl ?_
      refine cond_i (fun hg => hJ _ _ ⟨rfl, by rw [if_pos hg]; rfl⟩) (fun hg => hJ _ _ ⟨rfl, by rw [if_neg (by simp [hg])]; rfl⟩)
  · have hj2 : j = 2 := by simp at hge; omega
    subst hj2
    rw [wrap_i64 (by omega) (by omega)]
    refine appendZB_i o4 (by omega) (by rw [hll]; omega) e4.size fun y w5 f5 o5 _ => ?_
    have e5 : Ext w1 w5 := Ext.own e4 f5 fun i hi => (o4.inB hi).1
    have hpre : S.rhead ++ ([a, b].take 2).flatMap S.hb ++ List.replicate ((28 - (s.len : Int)).toNat) 0 = S.pre a b := by
      rw [show (28 - (s.len : Int)).toNat = 15 by omega]; rfl
    rw [hpre] at o5
    refine sum_s o5.rd (by rw [S.pre_len]; omega) ?_
    have hc := S.crc_lt (S.pre a b)
    refine put_s o5.rd (by rw [S.pre_len]; omega) (by constructor <;> omega) (by constructor <;> omega) fun v w6 e6 o6 => ?_
    have hput : S.put (S.pre a b) 4 (S.crc (S.pre a b) : Int) = (S.recB a b, 0) := by
      unfold S.put
      rw [if_neg (by omega), if_neg ?_]
      · rfl
      · rintro (h | ⟨_, h⟩)
        · omega
        · exact h (Int.ediv_eq_zero_of_lt (by omega) (by show (S.crc (S.pre a b) : Int) < 256 ^ 4; omega))
    rw [hput] at o6
    exact hK v w6 ((e1.trans e5).trans e6) (o6.base (by have := (e1.trans e5).size; omega))

theorem hbR_s {h : S.Half} {K : Sl → World → Prop} {w : World} (hK : ∀ v w', Ext w w' → OwnB w' w.heap.size v (S.hb h) → K v w') :
    callS Try.prog 41 #[.agg #[.int .i64 h.p, .int .i64 h.t, .bool h.g]] [.one .slc] K w := by
  refine f41_ok ?_
  unfold f41
  refine box_i fun g w1 e1 hg v1 => ?_
  refine ld1_i h.p v1 rfl ?_
  refine ld1_i h.t v1 rfl ?_
  rw [wrap_u8_b, wrap_u8_b]
  refine buildB_i [u8 h.p, u8 h.t, 0, 0] rfl rfl (by omega) fun y w2 e2 o2 => ?_
  have hl := OwnB.len o2
  refine ld1_i h.g (v1.ext e2) rfl ?_
  have e12 := e1.trans e2
  have o2' := o2.base (B' := w.heap.size) (by have := e1.size; omega)
  refine cond_i (fun hg => ?_) (fun hg => ?_)
  · refine put1_i (b := 1) o2' (by omega) (by simp at hl; omega) (by decide) fun w3 f3 o3 => ?_
    refine hK y w3 (Ext.own e12 f3 fun i hi => (o2'.inB hi).1) ?_
    have : ([u8 h.p, u8 h.t, 0, 0] : List UInt8).set (2 : Int).toNat 1 = S.hb h := by unfold S.hb; rw [if_pos hg]; rfl
    rw [this] at o3
    exact o3
  · refine hK y w2 e12 ?_
    have : ([u8 h.p, u8 h.t, 0, 0] : List UInt8) = S.hb h := by unfold S.hb; rw [if_neg (by simp [hg])]
    rw [this] at o2'
    exact o2'

theorem number_s {n size : Nat} {K : Sl → World → Prop} {w : World} (hz : size ≤ 1000) (hn : n < 9223372036854775808) (hK : ∀ v w', Ext w w' → OwnB w' w.heap.size v (S.be size n) → K v w') :
    callS Try.prog 42 #[.int .i64 (n : Int), .int .i64 (size : Int)] [.one .slc] K w := by
  refine f42_ok ?_
  unfold f42
  refine makeB_i (by omega) (by omega) fun v w1 e1 o1 => ?_
  have hvl := OwnB.len o1
  simp only [Int.toNat_natCast, List.length_replicate] at hvl o1
  rw [wrap_i64 (by omega) (by omega)]
  refine loop_i (fun (s : Int × Int) w' => ∃ k : Nat, k ≤ size ∧ s.2 = (size : Int) - 1 - k ∧ s.1 = ((n / 256 ^ k : Nat) : Int) ∧ Ext w w' ∧ OwnB w' w.heap.size v (List.replicate (size - k) 0 ++ S.be k n)) (fun s _ => (s.2 + 1).toNat) ⟨0, by omega, by simp, by simp, e1, by simpa [S.be] using o1⟩ ?_
  rintro ⟨m, i⟩ w2 again ⟨k, hk, hi, hm, e2, o2⟩ hag
  dsimp only at hi hm o2 ⊢
  subst hi
  subst hm
  refine cond_i (fun hlt => ?_) (fun hge => ?_)
  · have hk' : k < size := by simp at hlt; omega
    have hq : n / 256 ^ k < 9223372036854775808 := Nat.lt_of_le_of_lt (Nat.div_le_self _ _) hn
    refine put1_i (b := UInt8.ofNat (n / 256 ^ k)) o2 (by omega) (by omega) ?_ fun w3 f3 o3 => ?_
    · rw [Int.tmod_eq_emod_of_nonneg (Int.natCast_nonneg _), wrap_u8_mod]
      simp only [UInt8.toNat_ofNat']
      omega
    · refine hag _ w3 ⟨k + 1, by omega, ?_, ?_, Ext.own e2 f3 fun i hi => (o2.inB hi).1, ?_⟩ ?_
      · simp only [wrap_i64 (x := (size : Int) - 1 - k - 1) (by omega) (by omega)]; omega
      · have hp : n / 256 ^ (k + 1) = n / 256 ^ k / 256 := by rw [Nat.pow_succ, Nat.div_div_eq_div_mul]
        rw [hp]
        generalize n / 256 ^ k = q at hq ⊢
        simp only [Int.tdiv_eq_ediv_of_nonneg (show (0 : Int) ≤ (q : Int) by omega)]
        rw [wrap_i64 (by omega) (by omega)]; omega
      · have hset : (List.replicate (size - k) (0 : UInt8) ++ S.be k n).set ((size : Int) - 1 - k).toNat (UInt8.ofNat (n / 256 ^ k)) = List.replicate (size - (k + 1)) 0 ++ S.be (k + 1) n := by
          rw [show ((size : Int) - 1 - k).toNat = size - (k + 1) by omega, show size - k = (size - (k + 1)) + 1 by omega, List.replicate_succ', List.append_assoc, List.set_append_right _ _ (by simp), S.be_cons]
          simp
        rw [hset] at o3
        exact o3
      · simp only [wrap_i64 (x := (size : Int) - 1 - k - 1) (by omega) (by omega)]; omega
  · have hk' : k = size := by simp at hge; omega
    subst hk'
    exact hK v w2 e2 (by simpa using o2)

theorem refBytes_s {a b : S.Half} {K : Sl → World → Prop} {w : World} (hK : ∀ v w', Ext w w' → OwnB w' w.heap.size v (S.recB a b) → K v w') :
    callS Try.prog 25 #[.agg #[.int .i64 a.p, .int .i64 a.t, .bool a.g, .int .i64 b.p, .int .i64 b.t, .bool b.g]] [.one .slc] K w := by
  refine f25_ok ?_
  unfold f25
  refine box_i fun g w1 e1 hg v1 => ?_
  refine bytesConst_i [0, 65, 66, 48, 1] (by kernel_rfl) rfl (by omega) fun x w2 e2 o2 => ?_
  refine ldH_i a (v1.ext e2) rfl ?_
  refine hbR_s fun y w3 e3 o3 => ?_
  have e13 := e2.trans e3
  have o23 := o2.ext e3
  refine appendB_i o23 o3.rd (by simp [S.hb]) e13.size fun x4 w4 f4 o4 _ => ?_
  have e14 : Ext w1 w4 := Ext.own e13 f4 fun i hi => (o23.inB hi).1
  refine ldH_i b (v1.ext e14) rfl ?_
  refine hbR_s fun y5 w5 e5 o5 => ?_
  have e15 := e14.trans e5
  have o45 := o4.ext e5
  refine appendB_i o45 o5.rd (by simp [S.hb]) e15.size fun x6 w6 f6 o6 _ => ?_
  have e16 : Ext w1 w6 := Ext.own e15 f6 fun i hi => (o45.inB hi).1
  refine loop_i (fun (s : Sl) w' => ∃ j : Nat, j ≤ 15 ∧ Ext w1 w' ∧ OwnB w' w1.heap.size s (S.rhead ++ S.hb a ++ S.hb b ++ List.replicate j 0)) (fun s _ => 28 - s.len) ⟨0, by omega, e16, by simpa [S.rhead] using o6⟩ ?_
  rintro s w7 again ⟨j, hj, e7, o7⟩ hag
  have hvl := OwnB.len o7
  have hll : (S.rhead ++ S.hb a ++ S.hb b ++ List.replicate j (0 : UInt8)).length = 13 + j := by simp [S.rhead, S.hb]; omega
  rw [hll] at hvl
  refine cond_i (fun hlt => ?_) (fun hge => ?_)
  · have hj' : j < 15 := by simp at hlt; omega
    refine append1_i (b := 0) (by decide) o7 (by rw [hll]; omega) e7.size fun x8 w8 f8 o8 _ => ?_
    have hvl8 := OwnB.len o8
    rw [List.length_append, hll] at hvl8
    refine hag _ w8 ⟨j + 1, by omega, Ext.own e7 f8 fun i hi => (o7.inB hi).1, ?_⟩ ?_
    · rw [List.replicate_succ', ← List.append_assoc]; exact o8
    · simp at hvl8; omega
  · have hj' : j = 15 := by simp at hge; omega
    subst hj'
    have hc := S.crc_lt (S.pre a b)
    have o7' : OwnB w7 w1.heap.size s (S.pre a b) := o7
    refine refSum_s o7'.rd (by rw [S.pre_len]; omega) ?_
    refine number_s (size := 4) (by omega) (by omega) fun y8 w8 e8 o8 => ?_
    have e18 := e7.trans e8
    have o78 := o7'.ext e8
    refine appendB_i o78 o8.rd (by simp [S.be_length, S.pre_len]) e18.size fun v w9 f9 o9 _ => ?_
    exact hK v w9 (e1.trans (Ext.own e18 f9 fun i hi => (o78.inB hi).1)) (o9.base (by have := e1.size; omega))

theorem equal_s {s t : Sl} {xs ys : List UInt8} {K : Bool → World → Prop} {w : World} (hs : Bts w s xs) (ht : Bts w t ys) (hK : K (xs == ys) w) : callS Try.prog 36 #[.slice s.a s.len s.cap, .slice t.a t.len t.cap] [.one .bool] K w := by
  refine f36_ok ?_
  unfold f36
  refine b2s_i hs ?_
  refine b2s_i ht ?_
  simp only [str_toList]
  exact hK
theorem encode_s {a b : S.Half} {K : Sl → Int → World → Prop} {w : World} (h1 : (a.right && b.right) = false → ∀ w', Ext w w' → K Sl.nil 12 w') (h2 : (a.right && b.right) = true → ∀ v w', Ext w w' → OwnB w' w.heap.size v (S.recB a b) → K v 0 w') :
    callS Try.prog 22 #[.agg #[.int .i64 a.p, .int .i64 a.t, .bool a.g, .int .i64 b.p, .int .i64 b.t, .bool b.g]] [.one .slc, .one (.int .i64)] K w := by
  refine f22_ok ?_
  unfold f22
  refine box_i fun g w1 e1 hg v1 => ?_
  refine ldR_i (a := a) (b := b) v1 ?_
  refine rightR_s fun w2 e2 => ?_
  refine cond_i (fun h => h1 (by revert h; cases (a.right && b.right) <;> simp) _ (e1.trans e2)) (fun h => ?_)
  refine ldR_i (a := a) (b := b) (v1.ext e2) ?_
  refine bytes_s fun v w3 e3 o3 => ?_
  exact h2 (by revert h; cases (a.right && b.right) <;> simp) v w3 ((e1.trans e2).trans e3) (o3.base (e1.trans e2).size)

/-- The zero record, put into a result, and an error. -/
theorem resR_i {P : Program} {w : World} {t g : Nat} [AggTy P t 6] {a b : S.Half} {e : Int} {K : Int → Int → Bool → Int → Int → Bool → Int → World → Prop} (hv : Var w g (rls a b)) (hK : K a.p a.t a.g b.p b.t b.g e w) :
    ∃ v, (loadVar t (at_ g 0)).run P w = .ok v w ∧ decR [.agg lR, .one (.int .i64)] (.tuple #[v, .int .i64 e]) K fun r => r w :=
  resV_i (n := 6) hv rfl hK

theorem half1_s {s : Sl} {bs : List UInt8} {g i : Nat} {K : Int → Int → Bool → World → Prop} {w : World} (hv : Var w g [.slice s.a s.len s.cap]) (hs : Bts w s bs) (hi : i + 2 < bs.length) (hlen : bs.length ≤ 1000)
    (hK : ∀ w', Ext w w' → K (S.halfAt bs i).p (S.halfAt bs i).t (S.halfAt bs i).g w') : callS Try.prog 35 #[.int .i64 (i : Int), .pointer (some (at_ g 0))] [.agg lH] K w := by
  refine f35_ok ?_
  unfold f35
  have hbl := Bts.len hs
  obtain ⟨a, ha⟩ := hs.some (by omega)
  refine alloc_i fun g1 w1 e1 hg1 v1 => ?_
  refine ⟨fun x => Ext w1 x, Ext.drew _, ?_⟩
  have rd : ∀ (j : Nat) (hj : j < bs.length) x, Ext w1 x → x.cell? (a.add j) = some (Lf.enc (.int .u8) (bs[j].toNat : Int)) := fun j hj x hx => ((hs.ext e1).ext hx).cells a ha j _ (bytes_get hj)
  have gd : ∀ (j : Nat) (hj : j < bs.length), bs.getD j 0 = bs[j] := fun j hj => by simp [hj]
  refine ld1Q_i (l := .slc) s (fun x hx => (hv.ext e1).ext hx) rfl ?_
  refine ixQ_i ha (by omega) (by omega) ?_
  simp only [Int.toNat_natCast, Nat.mul_one]
  refine ldQ_i (l := .int .u8) _ (rd i (by omega)) ?_
  refine ld1Q_i (l := .slc) s (fun x hx => (hv.ext e1).ext hx) rfl ?_
  rw [wrap_i64 (x := (i : Int) + 1) (by omega) (by omega)]
  refine ixQ_i ha (by omega) (by omega) ?_
  rw [show ((i : Int) + 1).toNat * 1 = i + 1 by omega]
  refine ldQ_i (l := .int .u8) _ (rd (i + 1) (by omega)) ?_
  refine ld1Q_i (l := .slc) s (fun x hx => (hv.ext e1).ext hx) rfl ?_
  rw [wrap_i64 (x := (i : Int) + 2) (by omega) (by omega)]
  refine ixQ_i ha (by omega) (by omega) ?_
  rw [show ((i : Int) + 2).toNat * 1 = i + 2 by omega]
  refine ldQ_i (l := .int .u8) _ (rd (i + 2) (by omega)) ?_
  have b0 := (bs[i]'(by omega)).toNat_lt
  have b1 := (bs[i + 1]'(by omega)).toNat_lt
  have hh : S.halfAt bs i = ⟨((bs[i]'(by omega)).toNat : Int), ((bs[i + 1]'(by omega)).toNat : Int), (((bs[i + 2]'(by omega)).toNat : Int) == 1)⟩ := by
    unfold S.halfAt
    rw [gd i (by omega), gd (i + 1) (by omega), gd (i + 2) (by omega)]
    congr 1
    rw [Bool.eq_iff_iff]
    simp only [beq_iff_eq]
    constructor
    · intro h; rw [h]; rfl
    · intro h; exact UInt8.toNat_inj.1 (by show (bs[i + 2]'(by omega)).toNat = 1; omega)
  rw [wrap_i64 (x := ((bs[i]'(by omega)).toNat : Int)) (by omega) (by omega), wrap_i64 (x := ((bs[i + 1]'(by omega)).toNat : Int)) (by omega) (by omega)]
  refine stH_i 0 (v1.ext (Ext.drew _)) (by decide) fun w3 f3 v3 => ?_
  have e3 : Ext w w3 := Fr.own1 (e1.trans (Ext.drew _)) f3 hg1
  have := hK w3 e3
  rw [hh] at this
  exact resV_i v3 rfl this

theorem parse_s {s : Sl} {bs : List UInt8} {K : Int → Int → Bool → Int → Int → Bool → Int → World → Prop} {w : World} (hs : Bts w s bs) (hlen : bs.length ≤ 1000)
    (hK : ∀ w', Ext w w' → K (S.parse bs).1.p (S.parse bs).1.t (S.parse bs).1.g (S.parse bs).2.p (S.parse bs).2.t (S.parse bs).2.g (S.parseErr bs) w') :
    callS Try.prog 20 #[.slice s.a s.len s.cap] [.agg lR, .one (.int .i64)] K w := by
  refine f20_ok ?_
  unfold f20
  have hbl := Bts.len hs
  have hcap := hs.cap
  refine box_i fun g w1 e1 hg v1 => ?_
  refine alloc_i fun g2 w2 e2 hg2 v2 => ?_
  have hg20 : w.heap.size ≤ g2 := by have := e1.size; omega
  have v1' := v1.ext e2
  have e12 := e1.trans e2
  have hs2 := hs.ext e12
  -- an error
  have err : ∀ (e : Int) (w3 : World), Ext w2 w3 → S.parseErr bs = e → e ≠ 0 →
      semU Try.prog (Instr.storeAt 29 (.pointer (some (at_ g2 0))) (.agg #[.int .i64 0, .int .i64 0, .bool false, .int .i64 0, .int .i64 0, .bool false])) (fun w =>
        ∃ v, (loadVar 29 (at_ g2 0)).run Try.prog w = .ok v w ∧ decR [.agg lR, .one (.int .i64)] (.tuple #[v, .int .i64 e]) K fun r => r w) w3 := fun e w3 h3 he hne => by
    refine stR_i (v2.ext h3) rfl fun w4 f4 v4 => ?_
    have hz : S.parse bs = (.zero, .zero) := by unfold S.parse; rw [if_neg (by rw [he]; exact hne)]
    have := hK w4 (Fr.own1 (e12.trans h3) f4 hg20)
    rw [hz, he] at this
    exact resR_i v4 this
  refine ld1_i (l := .slc) s v1' rfl ?_
  refine cond_i (fun h => ?_) (fun h => ?_)
  · have hl : bs.length ≠ 32 := by simp at h; omega
    exact err 10 w2 (Fr.refl _ _) (by unfold S.parseErr; rw [if_pos hl]) (by omega)
  · have hl : bs.length = 32 := by simp at h; omega
    refine ld1_i (l := .slc) s v1' rfl ?_
    refine slHi_i (by omega) (by omega) ?_
    have c4 : Bts w2 (s.cut 1 0 (4 : Int).toNat) (bs.take 4) := by
      have := Bts.cut hs2 (l := 0) (hi := 4) (by omega) (by omega); simpa using this
    refine b2s_i c4 ?_
    rw [str_toList]
    have hmag : (ByteArray.mk #[0, 65, 66, 48]).toList = [0, 65, 66, 48] := by rw [ByteArray.toList_eq]
    rw [hmag]
    refine cond_i (fun h => ?_) (fun h => ?_)
    · have h4 : bs.take 4 ≠ [0, 65, 66, 48] := by simpa using h
      exact err 30 w2 (Fr.refl _ _) (by unfold S.parseErr; rw [if_neg (Classical.not_not.2 hl), if_pos h4]) (by omega)
    · have h4 : bs.take 4 = [0, 65, 66, 48] := by simpa using h
      refine ld1_i (l := .slc) s v1' rfl ?_
      refine elem_i (x := ((bs[4]'(by omega)).toNat : Int)) hs2 (by omega) (by omega) (by simpa using bytes_get (show 4 < bs.length by omega)) ?_
      have gd4 : bs.getD 4 0 = bs[4]'(by omega) := by simp [hl]
      have ver : ∀ x : UInt8, (((x.toNat : Int) != 1) = true ↔ x ≠ 1) := fun x => by
        rw [bne_iff_ne]
        constructor
        · rintro h rfl; exact h rfl
        · intro h h2; exact h (UInt8.toNat_inj.1 (by show x.toNat = 1; omega))
      refine cond_i (fun h => ?_) (fun h => ?_)
      · have h5 : bs.getD 4 0 ≠ 1 := by rw [gd4]; exact (ver _).1 h
        exact err 31 w2 (Fr.refl _ _) (by unfold S.parseErr; rw [if_neg (Classical.not_not.2 hl), if_neg (Classical.not_not.2 h4), if_pos h5]) (by omega)
      · have h5 : bs.getD 4 0 = 1 := by
          rw [gd4]; exact Classical.not_not.1 fun hn => by have := (ver _).2 hn; rw [show (((bs[4]'(by omega)).toNat : Int) != 1) = false from h] at this; cases this
        refine ld1_i (l := .slc) s v1' rfl ?_
        refine get_s hs2 (by omega) (by constructor <;> omega) (by constructor <;> omega) ?_
        have hget : (S.get bs 28 4).1 = (S.beN (bs.drop 28) : Int) := by
          unfold S.get
          rw [if_neg (by omega), if_neg (by rw [show S.within 28 4 bs.length = true from S.within_iff.2 (by omega)]; simp)]
          have ht : (bs.drop (28 : Int).toNat).take (4 : Int).toNat = bs.drop 28 := List.take_of_length_le (by simp; omega)
          rw [ht, if_neg (by have := S.beN_small (bs := bs.drop 28) (by simp; omega); omega)]
        rw [hget]
        refine ld1_i (l := .slc) s v1' rfl ?_
        refine slHi_i (by omega) (by omega) ?_
        have c28 : Bts w2 (s.cut 1 0 (28 : Int).toNat) (bs.take 28) := by
          have := Bts.cut hs2 (l := 0) (hi := 28) (by omega) (by omega); simpa using this
        refine sum_s c28 (by simp; omega) ?_
        have sumd : ∀ x y : Nat, (((x : Int) != (y : Int)) = true ↔ x ≠ y) := fun x y => by rw [bne_iff_ne]; omega
        refine cond_i (fun h => ?_) (fun h => ?_)
        · have h6 : S.beN (bs.drop 28) ≠ S.crc (bs.take 28) := (sumd _ _).1 h
          exact err 55 w2 (Fr.refl _ _) (by unfold S.parseErr; rw [if_neg (Classical.not_not.2 hl), if_neg (Classical.not_not.2 h4), if_neg (Classical.not_not.2 h5), if_pos h6]) (by omega)
        · have h6 : S.beN (bs.drop 28) = S.crc (bs.take 28) := Classical.not_not.1 fun hn => by
            have := (sumd _ _).2 hn
            exact absurd (this.symm.trans h) (by simp)
          refine half1_s v1' hs2 (i := 5) (by omega) (by omega) fun w3 e3 => ?_
          refine half1_s (v1'.ext e3) (hs2.ext e3) (i := 9) (by omega) (by omega) fun w4 e4 => ?_
          have e24 := e3.trans e4
          refine alloc_i fun g5 w5 e5 hg5 v5 => ?_
          refine stR_i v5 rfl fun w6 f6 v6 => ?_
          have e26 : Ext w2 w6 := e24.trans (Fr.own1 e5 f6 hg5)
          refine ⟨fun x => Ext w6 x, Ext.drew _, ?_⟩
          refine ldRQ_i (a := S.halfAt bs 5) (b := S.halfAt bs 9) (fun x hx => v6.ext hx) ?_
          refine rightR_s fun w7 e7 => ?_
          have e67 := (Ext.drew w6).trans e7
          refine more_i e67 ?_
          have e27 := e26.trans e67
          refine cond_i (fun h => ?_) (fun h => ?_)
          · have h7 : S.rightAt bs = false := by unfold S.rightAt; revert h; cases ((S.halfAt bs 5).right && (S.halfAt bs 9).right) <;> simp
            exact err 12 w7 e27 (by unfold S.parseErr; rw [if_neg (Classical.not_not.2 hl), if_neg (Classical.not_not.2 h4), if_neg (Classical.not_not.2 h5), if_neg (Classical.not_not.2 h6), if_pos (.inl h7)]) (by omega)
          · have h7 : S.rightAt bs = true := by unfold S.rightAt; revert h; cases ((S.halfAt bs 5).right && (S.halfAt bs 9).right) <;> simp
            refine ldRQ_i (a := S.halfAt bs 5) (b := S.halfAt bs 9) (fun x hx => v6.ext hx) ?_
            refine ld1Q_i (l := .slc) s (fun x hx => (v1'.ext e26).ext hx) rfl ?_
            refine bytes_s fun v w8 e8 o8 => ?_
            have e68 := e67.trans e8
            refine more_i e68 ?_
            refine equal_s o8.rd (hs2.ext (e26.trans e68)) ?_
            refine cond_i (fun h => ?_) (fun h => ?_)
            · have h8 : S.recB (S.halfAt bs 5) (S.halfAt bs 9) ≠ bs := by simpa using h
              exact err 12 w8 (e26.trans e68) (by unfold S.parseErr; rw [if_neg (Classical.not_not.2 hl), if_neg (Classical.not_not.2 h4), if_neg (Classical.not_not.2 h5), if_neg (Classical.not_not.2 h6), if_pos (.inr h8)]) (by omega)
            · have h8 : S.recB (S.halfAt bs 5) (S.halfAt bs 9) = bs := by simpa using h
              have hz : S.parseErr bs = 0 := S.parseErr_zero.2 ⟨hl, h4, h5, h6, h7, h8⟩
              refine ldR_i (v6.ext e68) ?_
              refine stR_i (v2.ext (e26.trans e68)) rfl fun w9 f9 v9 => ?_
              have := hK w9 (Fr.own1 (e12.trans (e26.trans e68)) f9 hg20)
              have hp : S.parse bs = (S.halfAt bs 5, S.halfAt bs 9) := by unfold S.parse; rw [if_pos hz]
              rw [hp, hz] at this
              exact resR_i v9 this
end Go.Proofs.Ytmcejfmjclngaaa
