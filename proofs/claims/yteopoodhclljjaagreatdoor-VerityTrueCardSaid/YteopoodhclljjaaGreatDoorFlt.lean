/- Whole numbers as words of 64-bit floats: read, compared, added, and turned back. -/
import Derived.Test.YteopoodhclljjaaGreatDoorLib6
import Derived.Laws.FloatArith
set_option linter.unusedSimpArgs false
set_option linter.unusedVariables false
namespace Go.Eng
open Go
/-- The word of a whole number. -/
def fw (n : Nat) : Nat := FloatKind.nearest .f64 (n : Int)
theorem fw_eq (n : Nat) : fw n = Ieee.double.nearest false n 0 := by
  unfold fw FloatKind.nearest FloatKind.encode FloatKind.format Ieee.Format.write
  simp only [Int.natAbs_natCast]
  congr 1
theorem log2_mul (n k : Nat) (hn : 0 < n) : (n * 2 ^ k).log2 = n.log2 + k := by
  have h1 := Nat.log2_self_le (n := n) (by omega)
  have h2 := Nat.lt_log2_self (n := n)
  have hp : 0 < 2 ^ k := Nat.two_pow_pos k
  rw [Nat.log2_eq_iff (by have := Nat.mul_pos hn hp; omega)]
  constructor
  · rw [Nat.pow_add]; exact Nat.mul_le_mul_right _ h1
  · rw [show n.log2 + k + 1 = (n.log2 + 1) + k by omega, Nat.pow_add]; exact Nat.mul_lt_mul_of_pos_right h2 hp
theorem least : Ieee.double.leastPlace = -1074 := by decide
theorem near_of {n mag : Nat} {place : Int} (hn : 0 < n) (h53 : n < 2 ^ 53) (hp : place ≤ 0) (hm : mag = n * 2 ^ (-place).toNat) : Ieee.double.nearest false mag place = (n.log2 + 1022) * 2 ^ 52 + n * 2 ^ (52 - n.log2) := by
  have hL : n.log2 ≤ 52 := by
    have := (Nat.log2_lt (n := n) (k := 53) (by omega)).2 h53
    omega
  have hk : (((-place).toNat : Nat) : Int) = -place := Int.toNat_of_nonneg (by omega)
  generalize hkk : (-place).toNat = k at hm hk
  have hpp : place = -(k : Int) := by omega
  subst hpp
  have h2k : 0 < 2 ^ k := Nat.two_pow_pos k
  have hmag : mag ≠ 0 := by have := Nat.mul_pos hn h2k; omega
  have hlog : mag.log2 = n.log2 + k := by rw [hm]; exact log2_mul n k hn
  unfold Ieee.Format.nearest
  rw [if_neg hmag, least, hlog]
  have hfb : ((Ieee.double.fractionBits : Nat) : Int) = 52 := rfl
  have hlast : max (-(k : Int) + ((n.log2 + k : Nat) : Int) - ((Ieee.double.fractionBits : Nat) : Int)) (-1074) = (n.log2 : Int) - 52 := by rw [hfb]; omega
  simp only []
  rw [hlast]
  have hq : n * 2 ^ (52 - n.log2) < 2 ^ 53 := by
    have h2 := Nat.lt_log2_self (n := n)
    have hp : 0 < 2 ^ (52 - n.log2) := Nat.two_pow_pos _
    have := Nat.mul_lt_mul_of_pos_right h2 hp
    rw [← Nat.pow_add, show n.log2 + 1 + (52 - n.log2) = 53 by omega] at this
    exact this
  have hkept : Ieee.Toward.even.cut false (mag <<< (-(k : Int) - ((n.log2 : Int) - 52)).toNat) (((n.log2 : Int) - 52) - (-(k : Int))).toNat = n * 2 ^ (52 - n.log2) := by
    unfold Ieee.Toward.cut
    by_cases hc : k + n.log2 ≤ 52
    · have e1 : (-(k : Int) - ((n.log2 : Int) - 52)).toNat = 52 - n.log2 - k := by omega
      have e2 : (((n.log2 : Int) - 52) - (-(k : Int))).toNat = 0 := by omega
      rw [e1, e2, Nat.zero_min]
      have e3 : mag <<< (52 - n.log2 - k) = n * 2 ^ (52 - n.log2) := by
        rw [Nat.shiftLeft_eq, hm, Nat.mul_assoc, ← Nat.pow_add, show k + (52 - n.log2 - k) = 52 - n.log2 by omega]
      rw [e3]
      simp [Nat.mod_one]
    · have e1 : (-(k : Int) - ((n.log2 : Int) - 52)).toNat = 0 := by omega
      have e2 : (((n.log2 : Int) - 52) - (-(k : Int))).toNat = n.log2 + k - 52 := by omega
      rw [e1, e2, Nat.shiftLeft_zero, hlog, Nat.min_eq_left (by omega)]
      have e3 : mag = n * 2 ^ (52 - n.log2) * 2 ^ (n.log2 + k - 52) := by
        rw [hm, Nat.mul_assoc, ← Nat.pow_add, show 52 - n.log2 + (n.log2 + k - 52) = k by omega]
      have e4 : 1 <<< (n.log2 + k - 52) = 2 ^ (n.log2 + k - 52) := by rw [Nat.shiftLeft_eq, Nat.one_mul]
      have h2d : 0 < 2 ^ (n.log2 + k - 52) := Nat.two_pow_pos _
      simp only [e4]
      rw [e3, Nat.mul_div_cancel _ h2d, Nat.mul_mod_left]
      generalize 2 ^ (n.log2 + k - 52) = D at h2d
      have : (D == 2 * 0) = false := by simp; omega
      simp
      omega
  rw [hkept]
  have hw : ∀ r, Ieee.double.word false r = r := fun r => rfl
  have hinf : Ieee.double.infRung = 2047 * 2 ^ 52 := by decide
  have hbin : Ieee.double.binade = 2 ^ 52 := rfl
  rw [hw, hinf, hbin, show ((n.log2 : Int) - 52 - (-1074)).toNat = n.log2 + 1022 by omega]
  apply Nat.min_eq_left
  have : (n.log2 + 1022) * 2 ^ 52 ≤ 1074 * 2 ^ 52 := Nat.mul_le_mul_right _ (by omega)
  rw [show (2 : Nat) ^ 53 = 2 * 2 ^ 52 from rfl] at hq
  generalize (2 : Nat) ^ 52 = c at *
  omega
theorem read_of {n : Nat} (hn : 0 < n) (h53 : n < 2 ^ 53) : Ieee.double.read ((n.log2 + 1022) * 2 ^ 52 + n * 2 ^ (52 - n.log2)) = .number false (n * 2 ^ (52 - n.log2)) ((n.log2 : Int) - 52) := by
  have hL : n.log2 ≤ 52 := by
    have := (Nat.log2_lt (n := n) (k := 53) (by omega)).2 h53
    omega
  have hp : 0 < 2 ^ (52 - n.log2) := Nat.two_pow_pos _
  have hq : n * 2 ^ (52 - n.log2) < 2 ^ 53 := by
    have := Nat.mul_lt_mul_of_pos_right (Nat.lt_log2_self (n := n)) hp
    rw [← Nat.pow_add, show n.log2 + 1 + (52 - n.log2) = 53 by omega] at this
    exact this
  have hq2 : 2 ^ 52 ≤ n * 2 ^ (52 - n.log2) := by
    have := Nat.mul_le_mul_right (2 ^ (52 - n.log2)) (Nat.log2_self_le (n := n) (by omega))
    rw [← Nat.pow_add, show n.log2 + (52 - n.log2) = 52 by omega] at this
    exact this
  generalize n * 2 ^ (52 - n.log2) = q at hq hq2
  have h1 : (n.log2 + 1022) * 2 ^ 52 ≤ 1074 * 2 ^ 52 := Nat.mul_le_mul_right _ (by omega)
  have hinf : Ieee.double.infRung = 2047 * 2 ^ 52 := by decide
  have hbin : Ieee.double.binade = 2 ^ 52 := rfl
  have hsw : Ieee.double.signWeight = 2 ^ 63 := rfl
  have hw0 : ((n.log2 + 1022) * 2 ^ 52 + q) / 2 ^ 63 = 0 := Nat.div_eq_of_lt (by omega)
  have hwm : ((n.log2 + 1022) * 2 ^ 52 + q) % 2 ^ 63 = (n.log2 + 1022) * 2 ^ 52 + q := Nat.mod_eq_of_lt (by omega)
  unfold Ieee.Format.read
  simp only [hsw, hw0, hwm, hinf, hbin, least]
  have c1 : ¬ (n.log2 + 1022) * 2 ^ 52 + q < 2 ^ 52 := by omega
  have c2 : (n.log2 + 1022) * 2 ^ 52 + q < 2047 * 2 ^ 52 := by omega
  rw [if_neg c1, if_pos c2]
  have m1 : ((n.log2 + 1022) * 2 ^ 52 + q) % 2 ^ 52 = q - 2 ^ 52 := by omega
  have m2 : ((n.log2 + 1022) * 2 ^ 52 + q) / 2 ^ 52 = n.log2 + 1023 := by omega
  rw [m1, m2, show 2 ^ 52 + (q - 2 ^ 52) = q by omega, show (-1074 + ((n.log2 + 1023 - 1 : Nat) : Int)) = (n.log2 : Int) - 52 by omega]
  rfl
/-- A word that stands for a whole number. -/
def IsW (x n : Nat) : Prop := ∃ m p, Ieee.double.read x = .number false m p ∧ p ≤ 0 ∧ m = n * 2 ^ (-p).toNat
theorem isW_fw {n : Nat} (h : n < 2 ^ 53) : IsW (fw n) n := by
  rcases Nat.eq_zero_or_pos n with rfl | hn
  · refine ⟨0, -1074, by decide, by omega, by omega⟩
  · rw [fw_eq, near_of hn h (Int.le_refl 0) (by simp)]
    have hL : n.log2 ≤ 52 := by
      have := (Nat.log2_lt (n := n) (k := 53) (by omega)).2 h
      omega
    exact ⟨_, _, read_of hn h, by omega, by rw [show (-((n.log2 : Int) - 52)).toNat = 52 - n.log2 by omega]⟩
theorem signed_of {a m : Nat} {p b : Int} (hp : p ≤ 0) (hb : b ≤ p) (hm : m = a * 2 ^ (-p).toNat) : Ieee.signed false m (p - b).toNat = ((a * 2 ^ (-b).toNat : Nat) : Int) := by
  unfold Ieee.signed
  rw [if_neg (by decide), Nat.shiftLeft_eq, hm, Nat.mul_assoc, ← Nat.pow_add, show (-p).toNat + (p - b).toNat = (-b).toNat by omega]
theorem ord_W {x y a b : Nat} (hx : IsW x a) (hy : IsW y b) : fOrd x y = some (compare a b) := by
  obtain ⟨m, p, h1, h2, h3⟩ := hx
  obtain ⟨n, q, k1, k2, k3⟩ := hy
  unfold fOrd FloatKind.format Ieee.Format.order
  simp only [h1, k1, Ieee.Datum.order]
  rw [signed_of h2 (Int.min_le_left p q) h3, signed_of k2 (Int.min_le_right p q) k3]
  have hD : 0 < 2 ^ (-(min p q)).toNat := Nat.two_pow_pos _
  generalize 2 ^ (-(min p q)).toNat = D at hD
  congr 1
  rcases Nat.lt_trichotomy a b with h | h | h
  · have h' := Nat.mul_lt_mul_of_pos_right h hD
    rw [(Nat.compare_eq_lt).2 h, (Int.compare_eq_lt).2 (by omega)]
  · subst h; simp
  · have h' := Nat.mul_lt_mul_of_pos_right h hD
    rw [(Nat.compare_eq_gt).2 h, (Int.compare_eq_gt).2 (by omega)]
theorem fcEq_W {x y a b : Nat} (hx : IsW x a) (hy : IsW y b) : fcEq x y = decide (a = b) := by
  have := ord_W hx hy
  unfold fOrd at this
  unfold fcEq
  rw [this]
  by_cases h : a = b
  · subst h; simp
  · simp [h]
theorem toInt_W {x a : Nat} (hx : IsW x a) : (Ieee.double.read x).toInt .zero = some (a : Int) := by
  obtain ⟨m, p, h1, h2, h3⟩ := hx
  rw [h1]
  unfold Ieee.Datum.toInt Ieee.Datum.integral
  simp only []
  have hc : Ieee.Toward.zero.cut false (m <<< p.toNat) (-p).toNat = a := by
    rw [show p.toNat = 0 by omega, Nat.shiftLeft_zero]
    unfold Ieee.Toward.cut
    rcases Nat.eq_zero_or_pos a with rfl | ha
    · rw [h3]; simp
    · rw [h3, log2_mul _ _ ha, Nat.min_eq_left (by omega)]
      simp only [Nat.shiftLeft_eq, Nat.one_mul]
      rw [Nat.mul_div_cancel _ (Nat.two_pow_pos _)]
      rfl
  rw [hc]
  rfl
theorem add_W {x y a b : Nat} (hx : IsW x a) (hy : IsW y b) (h : a + b < 2 ^ 53) : Ieee.double.add x y = some (fw (a + b)) := by
  obtain ⟨m, p, h1, h2, h3⟩ := hx
  obtain ⟨n, q, k1, k2, k3⟩ := hy
  unfold Ieee.Format.add
  rw [h1, k1]
  simp only [Ieee.Datum.sum, Option.map_some]
  rw [signed_of h2 (Int.min_le_left p q) h3, signed_of k2 (Int.min_le_right p q) k3]
  have hD : 0 < 2 ^ (-(min p q)).toNat := Nat.two_pow_pos _
  have hs : (((a * 2 ^ (-(min p q)).toNat : Nat) : Int) + ((b * 2 ^ (-(min p q)).toNat : Nat) : Int)) = (((a + b) * 2 ^ (-(min p q)).toNat : Nat) : Int) := by rw [Nat.add_mul]; omega
  rw [hs]
  congr 1
  rcases Nat.eq_zero_or_pos (a + b) with h0 | h0
  · rw [h0]
    simp [Ieee.Format.write, Ieee.Format.nearest]
    decide
  · have hpos := Nat.mul_pos h0 hD
    rw [if_neg (by omega), show decide ((((a + b) * 2 ^ (-(min p q)).toNat : Nat) : Int) < 0) = false from decide_eq_false (Int.not_lt.2 (Int.natCast_nonneg _)), Int.natAbs_natCast]
    unfold Ieee.Format.write
    simp only []
    rw [near_of h0 h (Int.le_trans (Int.min_le_left p q) h2) rfl, fw_eq, near_of h0 h (Int.le_refl 0) (by simp)]
theorem f2i_val {x n : Nat} (hx : IsW x n) (hn : n ≤ 9223372036854775807) : floatToIntVal .f64 x .i64 = some (n : Int) := by
  unfold floatToIntVal FloatKind.decode FloatKind.format
  simp only [toInt_W hx]
  rw [if_pos]
  constructor
  · show (-9223372036854775808 : Int) ≤ n; omega
  · show (n : Int) ≤ 9223372036854775807; omega
section
variable {P : Program} {w : World}
/-- 'int(x)' of a float that is a whole number. -/
theorem f2i_i {src dst : TypeId} {K : Int → World → Prop} {x n : Nat} (hs : (P.underlying src).isSome = true) (hd : P.underlying dst = some (.int .i64)) (hx : IsW x n) (hn : n ≤ 9223372036854775807) (hK : K (n : Int) w) : semS P (convert src dst (.float .f64 x)) (.one (.int .i64)) K w :=
  ⟨.int .i64 n, w, run_convert_float_int w src dst .f64 .i64 x n hs hd (f2i_val hx hn), one_dec (l := .int .i64) hK⟩
theorem f2iQ_i {src dst : TypeId} {C : World → Prop} {K : Int → Prop} {x n : Nat} (hs : (P.underlying src).isSome = true) (hd : P.underlying dst = some (.int .i64)) (hx : IsW x n) (hn : n ≤ 9223372036854775807) (hK : K (n : Int)) : semQ P C (convert src dst (.float .f64 x)) (.one (.int .i64)) K :=
  ⟨.int .i64 n, fun w _ => run_convert_float_int w src dst .f64 .i64 x n hs hd (f2i_val hx hn), one_decQ (l := .int .i64) hK⟩
theorem run_cadd {t : TypeId} {o1 o2 : Operand} {a b c d n m k l : Nat} (ha : IsW a n) (hb : IsW b m) (hc : IsW c k) (hd : IsW d l) (h1 : n + k < 2 ^ 53) (h2 : m + l < 2 ^ 53) : (binS .add t o1 o2 (.complex .f64 a b) (.complex .f64 c d)).run P w = .ok (.complex .f64 (fw (n + k)) (fw (m + l))) w := by
  have e1 : (FloatKind.format .f64).add a c = some (fw (n + k)) := add_W ha hc h1
  have e2 : (FloatKind.format .f64).add b d = some (fw (m + l)) := add_W hb hd h2
  simp [binS, eqGuard, binOp, Op.complexOp, Op.Complex.arith, Op.floatArith, e1, e2]
theorem cadd_i {t : TypeId} {o1 o2 : Operand} {a b c d n m k l : Nat} {K : Cx → World → Prop} (ha : IsW a n) (hb : IsW b m) (hc : IsW c k) (hd : IsW d l) (h1 : n + k < 2 ^ 53) (h2 : m + l < 2 ^ 53) (hK : K ⟨fw (n + k), fw (m + l)⟩ w) : semS P (binS .add t o1 o2 (.complex .f64 a b) (.complex .f64 c d)) (.one .cpx) K w :=
  ⟨_, w, run_cadd ha hb hc hd h1 h2, one_dec (l := .cpx) hK⟩
theorem caddQ_i {t : TypeId} {o1 o2 : Operand} {a b c d n m k l : Nat} {C : World → Prop} {K : Cx → Prop} (ha : IsW a n) (hb : IsW b m) (hc : IsW c k) (hd : IsW d l) (h1 : n + k < 2 ^ 53) (h2 : m + l < 2 ^ 53) (hK : K ⟨fw (n + k), fw (m + l)⟩) : semQ P C (binS .add t o1 o2 (.complex .f64 a b) (.complex .f64 c d)) (.one .cpx) K :=
  ⟨_, fun w _ => run_cadd ha hb hc hd h1 h2, one_decQ (l := .cpx) hK⟩
end
/-! ### comparisons of whole numbers -/
theorem isW0 : IsW 0 0 := isW_fw (n := 0) (by decide)
theorem fw0 : fw 0 = 0 := by decide +kernel
theorem fw1 : fw 1 = 4607182418800017408 := by decide +kernel
theorem isW1 : IsW 4607182418800017408 1 := by rw [← fw1]; exact isW_fw (by decide)
theorem ge_W {x y a b : Nat} (hx : IsW x a) (hy : IsW y b) : (fOrd x y == some .gt || fOrd x y == some .eq) = decide (b ≤ a) := by
  rw [ord_W hx hy]
  rcases Nat.lt_trichotomy a b with h | h | h
  · rw [Nat.compare_eq_lt.2 h, decide_eq_false (by omega)]; rfl
  · rw [Nat.compare_eq_eq.2 h, decide_eq_true (by omega)]; rfl
  · rw [Nat.compare_eq_gt.2 h, decide_eq_true (by omega)]; rfl
theorem le_W {x y a b : Nat} (hx : IsW x a) (hy : IsW y b) : (fOrd x y == some .lt || fOrd x y == some .eq) = decide (a ≤ b) := by
  rw [ord_W hx hy]
  rcases Nat.lt_trichotomy a b with h | h | h
  · rw [Nat.compare_eq_lt.2 h, decide_eq_true (by omega)]; rfl
  · rw [Nat.compare_eq_eq.2 h, decide_eq_true (by omega)]; rfl
  · rw [Nat.compare_eq_gt.2 h, decide_eq_false (by omega)]; rfl
theorem lt_W {x y a b : Nat} (hx : IsW x a) (hy : IsW y b) : (fOrd x y == some .lt) = decide (a < b) := by
  rw [ord_W hx hy]
  rcases Nat.lt_trichotomy a b with h | h | h
  · rw [Nat.compare_eq_lt.2 h, decide_eq_true (by omega)]; rfl
  · rw [Nat.compare_eq_eq.2 h, decide_eq_false (by omega)]; rfl
  · rw [Nat.compare_eq_gt.2 h, decide_eq_false (by omega)]; rfl
theorem fw_inj {a b : Nat} (ha : a < 2 ^ 53) (hb : b < 2 ^ 53) (h : fw a = fw b) : a = b := by
  have h1 := toInt_W (isW_fw ha)
  have h2 := toInt_W (isW_fw hb)
  rw [h] at h1
  rw [h1] at h2
  have := Option.some.inj h2
  omega
end Go.Eng
