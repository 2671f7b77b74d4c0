/- Layer 16 (record): its sums, its slots. -/
import Derived.Test.YtmcejfmjclngaaaSpan
import Derived.Test.YtmcejfmjclngaaaPure16
import Derived.Test.YtmcejfmjclngaaaLib3
set_option linter.unusedSimpArgs false
set_option linter.unusedVariables false
namespace Go.Proofs.Ytmcejfmjclngaaa
open Go Go.Eng

theorem stepI {c : Nat} (h : c < 4294967296) : xorI .u32 (shrI .u32 (c : Int) 1) (IntKind.wrap .u32 (3988292384 * (andI .u32 (c : Int) 1))) = (S.crcStep c : Int) := by
  have e1 : shrI .u32 (c : Int) 1 = ((c / 2 : Nat) : Int) := by rw [shrI_lit _ _ _ (by decide)]; simp
  have e2 : andI .u32 (c : Int) 1 = ((c % 2 : Nat) : Int) := by
    rw [show (1 : Int) = ((1 : Nat) : Int) by rfl, and_u32 (by omega) (by omega), Nat.and_one_is_mod]
  rw [e1, e2]
  unfold S.crcStep
  split
  · rename_i h1
    rw [h1]
    rw [show (IntKind.wrap .u32 (3988292384 * ((1 : Nat) : Int))) = ((3988292384 : Nat) : Int) by rw [wrap_u32 (by omega) (by omega)]; rfl]
    rw [xor_u32 (by omega) (by omega)]
  · have h0 : c % 2 = 0 := by omega
    rw [h0]
    rw [show (IntKind.wrap .u32 (3988292384 * ((0 : Nat) : Int))) = ((0 : Nat) : Int) by rw [wrap_u32 (by omega) (by omega)]; rfl]
    rw [xor_u32 (by omega) (by omega), Nat.xor_zero]
theorem notI {c : Nat} (h : c < 4294967296) : IntKind.wrap .i64 (xorI .u32 (IntKind.max .u32) (c : Int)) = ((4294967295 - c : Nat) : Int) := by
  have hm : IntKind.max .u32 = ((4294967295 : Nat) : Int) := by decide
  rw [hm, xor_u32 (by omega) h]
  have : 4294967295 ^^^ c = 4294967295 - c := by
    have := BitVec.toNat_not (x := BitVec.ofNat 32 c)
    rw [← BitVec.xor_allOnes, BitVec.xor_comm, BitVec.toNat_xor, BitVec.toNat_allOnes, BitVec.toNat_ofNat, Nat.mod_eq_of_lt h] at this
    simpa using this
  rw [this, wrap_i64 (by omega) (by omega)]

theorem sum_s {s : Sl} {bs : List UInt8} {K : Int → World → Prop} {w : World} (hs : Bts w s bs) (hlen : bs.length ≤ 68719476736) (hK : K (S.crc bs : Int) w) :
    callS Try.prog 11 #[.slice s.a s.len s.cap] [.one (.int .i64)] K w := by
  refine f11_ok ?_
  unfold f11
  have hbl := Bts.len hs
  refine loop_i (fun (x : Int × Int) w' => w' = w ∧ ∃ i : Nat, i ≤ bs.length ∧ x.2 = i ∧ x.1 = (S.crcSt 4294967295 (bs.take i) : Int)) (fun x _ => bs.length - x.2.toNat) ⟨rfl, 0, by omega, rfl, rfl⟩ ?_
  rintro ⟨c, i'⟩ w' again ⟨rfl, i, hi, hxi, hxn⟩ hag
  simp only at hxi hxn
  subst hxi
  subst hxn
  dsimp only
  have hc := S.crcSt_lt (bs.take i) (c := 4294967295) (by omega)
  refine cond_i (fun hlt => ?_) (fun hge => ?_)
  · have hlt' : i < bs.length := by simp at hlt; omega
    refine elem_i (x := ((bs[i]).toNat : Int)) hs (by omega) (by omega) (by simpa using bytes_get hlt') ?_
    have hb := bs[i].toNat_lt
    rw [wrap_u32 (x := (bs[i].toNat : Int)) (by omega) (by omega), xor_u32 hc (by omega)]
    have hx0 := S.xorByte_lt bs[i] hc
    refine loop_i (fun (x : Int × Int) w2 => w2 = w' ∧ ∃ k : Nat, k ≤ 8 ∧ x.2 = k ∧ x.1 = (S.crcIt k (S.crcSt 4294967295 (bs.take i) ^^^ bs[i].toNat) : Int)) (fun x _ => 8 - x.2.toNat) ⟨rfl, 0, by omega, rfl, rfl⟩ ?_
    rintro ⟨c2, k'⟩ w2 again2 ⟨rfl, k, hk, hxk, hxc⟩ hag2
    simp only at hxk hxc
    subst hxk
    subst hxc
    dsimp only
    refine cond_i (fun hlt2 => ?_) (fun hge2 => ?_)
    · have hk8 : k < 8 := by simp at hlt2; omega
      refine hag2 _ w2 ⟨rfl, k + 1, by omega, ?_, ?_⟩ ?_
      · simp only [wrap_i64 (x := (k : Int) + 1) (by omega) (by omega)]; omega
      · simp only [stepI (S.crcIt_lt k hx0), S.crcIt_succ]
      · simp only [wrap_i64 (x := (k : Int) + 1) (by omega) (by omega)]; omega
    · have hk8 : k = 8 := by simp at hge2; omega
      subst hk8
      refine hag _ w2 ⟨rfl, i + 1, by omega, ?_, ?_⟩ ?_
      · simp only [wrap_i64 (x := (i : Int) + 1) (by omega) (by omega)]; omega
      · simp only [List.take_succ_eq_append_getElem hlt', S.crcSt_snoc]; rfl
      · simp only [wrap_i64 (x := (i : Int) + 1) (by omega) (by omega)]; omega
  · have hge' : i = bs.length := by simp at hge; omega
    subst hge'
    rw [List.take_length] at hc ⊢
    rw [notI hc]
    exact hK

theorem refSum_s {s : Sl} {bs : List UInt8} {K : Int → World → Prop} {w : World} (hs : Bts w s bs) (hlen : bs.length ≤ 68719476736) (hK : K (S.crc bs : Int) w) :
    callS Try.prog 12 #[.slice s.a s.len s.cap] [.one (.int .i64)] K w := by
  refine f12_ok ?_
  unfold f12
  have hbl := Bts.len hs
  refine loop_i (fun (x : Int × Int) w' => w' = w ∧ ∃ i : Nat, i ≤ bs.length ∧ x.2 = i ∧ x.1 = (S.crcSt 4294967295 (bs.take i) : Int)) (fun x _ => bs.length - x.2.toNat) ⟨rfl, 0, by omega, rfl, rfl⟩ ?_
  rintro ⟨c, i'⟩ w' again ⟨rfl, i, hi, hxi, hxn⟩ hag
  simp only at hxi hxn
  subst hxi
  subst hxn
  dsimp only
  have hc := S.crcSt_lt (bs.take i) (c := 4294967295) (by omega)
  refine cond_i (fun hlt => ?_) (fun hge => ?_)
  · have hlt' : i < bs.length := by simp at hlt; omega
    refine elem_i (x := ((bs[i]).toNat : Int)) hs (by omega) (by omega) (by simpa using bytes_get hlt') ?_
    have hb := bs[i].toNat_lt
    rw [wrap_i64 (x := (bs[i].toNat : Int)) (by omega) (by omega), xor_i64 (by omega) (by omega)]
    have hx0 := S.xorByte_lt bs[i] hc
    refine loop_i (fun (x : Int × Int) w2 => w2 = w' ∧ ∃ k : Nat, k ≤ 8 ∧ x.2 = k ∧ x.1 = (S.crcIt k (S.crcSt 4294967295 (bs.take i) ^^^ bs[i].toNat) : Int)) (fun x _ => 8 - x.2.toNat) ⟨rfl, 0, by omega, rfl, rfl⟩ ?_
    rintro ⟨c2, k'⟩ w2 again2 ⟨rfl, k, hk, hxk, hxc⟩ hag2
    simp only at hxk hxc
    subst hxk
    subst hxc
    dsimp only
    have hlt32 := S.crcIt_lt k hx0
    refine cond_i (fun hlt2 => ?_) (fun hge2 => ?_)
    · have hk8 : k < 8 := by simp at hlt2; omega
      have hd : Int.tdiv (S.crcIt k (S.crcSt 4294967295 (bs.take i) ^^^ bs[i].toNat) : Int) 2 = ((S.crcIt k (S.crcSt 4294967295 (bs.take i) ^^^ bs[i].toNat) / 2 : Nat) : Int) := by
        rw [Int.tdiv_eq_ediv_of_nonneg (by omega)]; rfl
      have hm : Int.tmod (S.crcIt k (S.crcSt 4294967295 (bs.take i) ^^^ bs[i].toNat) : Int) 2 = ((S.crcIt k (S.crcSt 4294967295 (bs.take i) ^^^ bs[i].toNat) % 2 : Nat) : Int) := by
        rw [Int.tmod_eq_emod_of_nonneg (by omega)]; rfl
      have hst := S.crcIt_succ k (S.crcSt 4294967295 (bs.take i) ^^^ bs[i].toNat)
      unfold S.crcStep at hst
      rw [hd, hm]
      generalize S.crcIt k (S.crcSt 4294967295 (bs.take i) ^^^ bs[i].toNat) = c at *
      rw [wrap_i64 (x := ((c / 2 : Nat) : Int)) (by omega) (by omega)]
      refine cond_i (fun hodd => ?_) (fun heven => ?_)
      · have h1 : c % 2 = 1 := by simp at hodd; omega
        rw [if_pos h1] at hst
        refine hag2 _ w2 ⟨rfl, k + 1, by omega, ?_, ?_⟩ ?_
        · simp only [wrap_i64 (x := (k : Int) + 1) (by omega) (by omega)]; omega
        · rw [hst]; exact xor_i64 (a := c / 2) (b := 3988292384) (by omega) (by omega)
        · simp only [wrap_i64 (x := (k : Int) + 1) (by omega) (by omega)]; omega
      · have h1 : ¬ c % 2 = 1 := by simp at heven; omega
        rw [if_neg h1] at hst
        refine hag2 _ w2 ⟨rfl, k + 1, by omega, ?_, ?_⟩ ?_
        · simp only [wrap_i64 (x := (k : Int) + 1) (by omega) (by omega)]; omega
        · rw [hst]
        · simp only [wrap_i64 (x := (k : Int) + 1) (by omega) (by omega)]; omega
    · have hk8 : k = 8 := by simp at hge2; omega
      subst hk8
      refine hag _ w2 ⟨rfl, i + 1, by omega, ?_, ?_⟩ ?_
      · simp only [wrap_i64 (x := (i : Int) + 1) (by omega) (by omega)]; omega
      · simp only [List.take_succ_eq_append_getElem hlt', S.crcSt_snoc]; rfl
      · simp only [wrap_i64 (x := (i : Int) + 1) (by omega) (by omega)]; omega
  · have hge' : i = bs.length := by simp at hge; omega
    subst hge'
    rw [List.take_length] at hc ⊢
    rw [wrap_i64 (by omega) (by omega)]
    have : (4294967295 : Int) - (S.crcSt 4294967295 bs : Int) = (S.crc bs : Int) := by unfold S.crc; omega
    rw [this]
    exact hK
end Go.Proofs.Ytmcejfmjclngaaa
