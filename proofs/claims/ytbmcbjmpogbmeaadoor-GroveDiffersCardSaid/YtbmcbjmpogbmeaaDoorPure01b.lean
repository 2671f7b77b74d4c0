/- Layer 1 (span): what its laws ask of the plain functions. -/
import Derived.Test.YtbmcbjmpogbmeaaDoorPure01
import GoSem.Op.String
set_option linter.unusedSimpArgs false
set_option linter.unusedVariables false
namespace Go.S
open Go Go.Eng

theorem beN_nil : beN [] = 0 := rfl
theorem beN_cons (b : UInt8) (t : List UInt8) : beN (b :: t) = b.toNat * 256 ^ t.length + beN t := by
  have := beN_append [b] t
  simpa [beN] using this
theorem beN_take_le (bs : List UInt8) (k : Nat) : beN (bs.take k) ≤ beN bs := by
  have h := beN_append (bs.take k) (bs.drop k)
  rw [List.take_append_drop] at h
  have : beN (bs.take k) * 1 ≤ beN (bs.take k) * 256 ^ (bs.drop k).length := Nat.mul_le_mul_left _ (Nat.pow_pos (by omega))
  omega
/-- Eight bytes: too great for an int just if the first one is above 127. -/
theorem beN_eight {bs : List UInt8} (h : bs.length = 8) : beN bs ≥ 9223372036854775808 ↔ (bs[0]'(by omega)).toNat > 127 := by
  match bs, h with
  | b :: t, h =>
    have hl : t.length = 7 := by simpa using h
    have ht := beN_lt t
    rw [beN_cons, hl]
    rw [hl] at ht
    simp only [List.getElem_cons_zero]
    generalize beN t = x at *
    omega
theorem beN_small {bs : List UInt8} (h : bs.length < 8) : beN bs < 9223372036854775808 := by
  have := beN_lt bs
  have h2 : 256 ^ bs.length ≤ 256 ^ 7 := Nat.pow_le_pow_right (by omega) (by omega)
  omega
theorem pow_int (n k : Nat) : (n : Int) / 256 ^ k = ((n / 256 ^ k : Nat) : Int) := by simp
/-- What was put is got. -/
theorem get_put (bs : List UInt8) (size n : Nat) (h1 : 1 ≤ size) (h8 : size ≤ 8) (hn : n < 256 ^ size) (hb : n < 9223372036854775808) : get (bs ++ be size n) bs.length size = ((n : Int), 0) := by
  unfold get
  rw [if_neg (by omega)]
  have hw : within bs.length size (bs ++ be size n).length = true := within_iff.2 (by simp [be_length]; omega)
  rw [if_neg (by rw [hw]; simp)]
  have : ((bs ++ be size n).drop (bs.length : Int).toNat).take (size : Int).toNat = be size n := by
    simp [List.drop_left', List.take_of_length_le (Nat.le_of_eq (be_length size n))]
  rw [this, beN_be _ _ hn, if_neg (by omega)]
theorem put_ok {bs : List UInt8} {size n : Int} (h : (put bs size n).2 = 0) : 1 ≤ size ∧ size ≤ 8 ∧ 0 ≤ n ∧ (size < 8 → n / 256 ^ size.toNat = 0) ∧ (put bs size n).1 = bs ++ be size.toNat n.toNat := by
  unfold put at h ⊢
  split at h
  · simp at h
  · rename_i h1
    split at h
    · simp at h
    · rename_i h2
      rw [if_neg h1, if_neg h2]
      exact ⟨by omega, by omega, by omega, fun h8 => Classical.not_not.1 fun h9 => h2 (.inr ⟨h8, h9⟩), rfl⟩
theorem room {size n : Nat} (hs : size ≤ 8) (hb : n < 9223372036854775808) (h : size < 8 → n / 256 ^ size = 0) : n < 256 ^ size := by
  by_cases h8 : size < 8
  · have := h h8
    have hp : 0 < 256 ^ size := Nat.pow_pos (by omega)
    exact (Nat.div_eq_zero_iff_lt hp).1 this
  · have : size = 8 := by omega
    subst this
    omega
theorem bytesLess_be (s : Nat) : ∀ (a b : List UInt8), a.length = s → b.length = s → Op.bytesLess a b = decide (beN a < beN b) := by
  induction s with
  | zero =>
    intro a b ha hb
    rw [List.eq_nil_of_length_eq_zero ha, List.eq_nil_of_length_eq_zero hb]
    simp [Op.bytesLess]
  | succ s ih =>
    intro a b ha hb
    match a, b, ha, hb with
    | x :: a, y :: b, ha, hb =>
      have la : a.length = s := by simpa using ha
      have lb : b.length = s := by simpa using hb
      rw [Op.bytesLess, ih a b la lb, beN_cons, beN_cons, la, lb]
      have h1 := beN_lt a
      have h2 := beN_lt b
      rw [la] at h1
      rw [lb] at h2
      have e1 : decide (x < y) = decide (x.toNat < y.toNat) := by rw [decide_eq_decide]; exact UInt8.lt_iff_toNat_lt
      have e2 : (x == y) = decide (x.toNat = y.toNat) := by
        rw [Bool.eq_iff_iff]; simp [UInt8.toNat_inj]
      rw [e1, e2]
      generalize x.toNat = p
      generalize y.toNat = q
      generalize beN a = u at *
      generalize beN b = v at *
      generalize 256 ^ s = m at *
      rw [Bool.eq_iff_iff]
      simp only [Bool.or_eq_true, Bool.and_eq_true, decide_eq_true_eq]
      rcases Nat.lt_trichotomy p q with h | h | h
      · have : (p + 1) * m ≤ q * m := Nat.mul_le_mul_right _ h
        rw [Nat.add_mul] at this
        constructor <;> intro <;> first | omega | exact .inl h
      · subst h
        constructor
        · rintro (h | ⟨_, h⟩) <;> omega
        · intro h; exact .inr ⟨rfl, by omega⟩
      · have : (q + 1) * m ≤ p * m := Nat.mul_le_mul_right _ h
        rw [Nat.add_mul] at this
        constructor
        · rintro (h' | ⟨h', _⟩) <;> omega
        · intro h'; omega
theorem beN_inj {a b : List UInt8} (hl : a.length = b.length) : a = b ↔ beN a = beN b := by
  constructor
  · rintro rfl; rfl
  · intro h
    have key : ∀ (s : Nat) (a b : List UInt8), a.length = s → b.length = s → beN a = beN b → a = b := by
      intro s
      induction s with
      | zero => intro a b ha hb _; rw [List.eq_nil_of_length_eq_zero ha, List.eq_nil_of_length_eq_zero hb]
      | succ s ih =>
        intro a b ha hb h
        match a, b, ha, hb with
        | x :: a, y :: b, ha, hb =>
          have la : a.length = s := by simpa using ha
          have lb : b.length = s := by simpa using hb
          rw [beN_cons, beN_cons, la, lb] at h
          have h1 := beN_lt a
          have h2 := beN_lt b
          rw [la] at h1
          rw [lb] at h2
          have hm : 0 < 256 ^ s := Nat.pow_pos (by omega)
          have hxy : x.toNat = y.toNat := by
            have e1 : (x.toNat * 256 ^ s + beN a) / 256 ^ s = x.toNat := by rw [Nat.mul_comm, Nat.mul_add_div hm, Nat.div_eq_of_lt h1]; rfl
            have e2 : (y.toNat * 256 ^ s + beN b) / 256 ^ s = y.toNat := by rw [Nat.mul_comm, Nat.mul_add_div hm, Nat.div_eq_of_lt h2]; rfl
            rw [← e1, ← e2, h]
          rw [hxy] at h
          rw [UInt8.toNat_inj.1 hxy, ih a b la lb (by omega)]
    exact key _ a b rfl hl.symm h
theorem cut_ok {bs : List UInt8} {off len : Int} : (cut bs off len).2 = if within off len bs.length then 0 else 10 := by
  unfold cut; cases within off len bs.length <;> rfl
end Go.S
