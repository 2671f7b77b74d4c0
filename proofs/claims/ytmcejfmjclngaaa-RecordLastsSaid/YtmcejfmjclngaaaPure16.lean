/- Layer 16 (record): the sum of bytes, bit by bit, and what is true of it. -/
import Derived.Test.YtmcejfmjclngaaaNum
set_option linter.unusedSimpArgs false
set_option linter.unusedVariables false
namespace Go.S
open Go Go.Eng

def crcStep (c : Nat) : Nat := if c % 2 = 1 then (c / 2) ^^^ 3988292384 else c / 2
def crcIt : Nat → Nat → Nat
  | 0, c => c
  | k + 1, c => crcIt k (crcStep c)
def crcByte (c : Nat) (b : UInt8) : Nat := crcIt 8 (c ^^^ b.toNat)
def crcSt (c : Nat) (bs : List UInt8) : Nat := bs.foldl crcByte c
def crc (bs : List UInt8) : Nat := 4294967295 - crcSt 4294967295 bs

theorem crcStep_lt {c : Nat} (h : c < 4294967296) : crcStep c < 4294967296 := by
  unfold crcStep
  split
  · exact Nat.xor_lt_two_pow (n := 32) (by omega) (by omega)
  · omega
theorem crcIt_lt : ∀ (k : Nat) {c : Nat}, c < 4294967296 → crcIt k c < 4294967296
  | 0, _, h => h
  | k + 1, _, h => crcIt_lt k (crcStep_lt h)
theorem crcIt_succ : ∀ (k : Nat) (c : Nat), crcIt (k + 1) c = crcStep (crcIt k c)
  | 0, _ => rfl
  | k + 1, c => by rw [crcIt, crcIt_succ k (crcStep c)]; rfl
theorem xorByte_lt {c : Nat} (b : UInt8) (h : c < 4294967296) : c ^^^ b.toNat < 4294967296 := by
  have := b.toNat_lt
  exact Nat.xor_lt_two_pow (n := 32) (by omega) (by omega)
theorem crcByte_lt {c : Nat} (b : UInt8) (h : c < 4294967296) : crcByte c b < 4294967296 := crcIt_lt _ (xorByte_lt b h)
theorem crcSt_lt : ∀ (bs : List UInt8) {c : Nat}, c < 4294967296 → crcSt c bs < 4294967296
  | [], _, h => h
  | b :: bs, _, h => crcSt_lt bs (crcByte_lt b h)
theorem crcSt_snoc (c : Nat) (bs : List UInt8) (b : UInt8) : crcSt c (bs ++ [b]) = crcByte (crcSt c bs) b := by simp [crcSt]
theorem crcSt_append (c : Nat) (xs ys : List UInt8) : crcSt c (xs ++ ys) = crcSt (crcSt c xs) ys := by simp [crcSt]
theorem crc_lt (bs : List UInt8) : crc bs < 4294967296 := by unfold crc; omega
/-! A step is one to one: the top bit of what comes out tells whether the number was odd. -/
theorem top {a : Nat} (h : a < 2147483648) : (a ^^^ 3988292384) >>> 31 = 1 := by
  rw [Nat.shiftRight_xor_distrib]
  have h1 : a >>> 31 = 0 := by rw [Nat.shiftRight_eq_div_pow]; omega
  rw [h1]; rfl
theorem crcStep_inj {x y : Nat} (hx : x < 4294967296) (hy : y < 4294967296) (h : crcStep x = crcStep y) : x = y := by
  unfold crcStep at h
  have tx := top (a := x / 2) (by omega)
  have ty := top (a := y / 2) (by omega)
  have sx : (x / 2) >>> 31 = 0 := by rw [Nat.shiftRight_eq_div_pow]; omega
  have sy : (y / 2) >>> 31 = 0 := by rw [Nat.shiftRight_eq_div_pow]; omega
  split at h <;> split at h
  · have : x / 2 = y / 2 := by
      have e := congrArg (· ^^^ 3988292384) h
      simpa [Nat.xor_assoc] using e
    omega
  · rw [h, sy] at tx; omega
  · rw [← h, sx] at ty; omega
  · omega
theorem crcIt_inj : ∀ (k : Nat) {x y : Nat}, x < 4294967296 → y < 4294967296 → crcIt k x = crcIt k y → x = y
  | 0, _, _, _, _, h => h
  | k + 1, _, _, hx, hy, h => crcStep_inj hx hy (crcIt_inj k (crcStep_lt hx) (crcStep_lt hy) h)
theorem crcByte_inj {x y : Nat} (b : UInt8) (hx : x < 4294967296) (hy : y < 4294967296) (h : crcByte x b = crcByte y b) : x = y := by
  have := crcIt_inj 8 (xorByte_lt b hx) (xorByte_lt b hy) h
  have e := congrArg (· ^^^ b.toNat) this
  simpa [Nat.xor_assoc] using e
theorem crcSt_inj : ∀ (bs : List UInt8) {x y : Nat}, x < 4294967296 → y < 4294967296 → crcSt x bs = crcSt y bs → x = y
  | [], _, _, _, _, h => h
  | b :: bs, _, _, hx, hy, h => crcByte_inj b hx hy (crcSt_inj bs (crcByte_lt b hx) (crcByte_lt b hy) h)
theorem crcByte_other {c : Nat} {a b : UInt8} (hc : c < 4294967296) (h : crcByte c a = crcByte c b) : a = b := by
  have := crcIt_inj 8 (xorByte_lt a hc) (xorByte_lt b hc) h
  have e := congrArg (c ^^^ ·) this
  simp only [← Nat.xor_assoc, Nat.xor_self, Nat.zero_xor] at e
  exact UInt8.toNat_inj.1 e
/-- One byte that is another one gives another sum. -/
theorem crc_set (bs : List UInt8) (i : Nat) (hi : i < bs.length) (b : UInt8) (h : crc (bs.set i b) = crc bs) : b = bs[i] := by
  have e1 : bs.set i b = bs.take i ++ b :: bs.drop (i + 1) := by rw [List.set_eq_take_append_cons_drop, if_pos hi]
  have e2 : bs = bs.take i ++ bs[i] :: bs.drop (i + 1) := by rw [← List.drop_eq_getElem_cons hi, List.take_append_drop]
  have l1 := crcSt_lt (bs.set i b) (c := 4294967295) (by omega)
  have l2 := crcSt_lt bs (c := 4294967295) (by omega)
  have hs : crcSt 4294967295 (bs.set i b) = crcSt 4294967295 bs := by unfold crc at h; omega
  rw [e1] at hs
  have hs2 : crcSt 4294967295 (bs.take i ++ b :: bs.drop (i + 1)) = crcSt 4294967295 (bs.take i ++ bs[i] :: bs.drop (i + 1)) := by rw [hs]; exact congrArg _ e2
  rw [crcSt_append, crcSt_append] at hs2
  have l3 := crcSt_lt (bs.take i) (c := 4294967295) (by omega)
  exact crcByte_other l3 (crcSt_inj _ (crcByte_lt _ l3) (crcByte_lt _ l3) hs2)
/-- One bit turned is another byte. -/
theorem flip_ne (b : UInt8) (k : Nat) (hk : k < 8) : b ^^^ UInt8.ofNat (2 ^ k) ≠ b := by
  intro h
  have e : (b ^^^ b) ^^^ UInt8.ofNat (2 ^ k) = b ^^^ b := by rw [UInt8.xor_assoc, h]
  rw [UInt8.xor_self, UInt8.zero_xor] at e
  have := congrArg UInt8.toNat e
  simp only [UInt8.toNat_ofNat', UInt8.toNat_zero] at this
  have h2 : 2 ^ k < 256 := Nat.pow_lt_pow_right (by omega) hk
  have h3 : 0 < 2 ^ k := Nat.pow_pos (by omega)
  omega
end Go.S
