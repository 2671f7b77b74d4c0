/- Layer 1 (span) as plain functions over lists of bytes and numbers, and what is true of them. -/
import Derived.Test.YtbmcbjmpogbmeaaDoorNum
set_option linter.unusedSimpArgs false
set_option linter.unusedVariables false
namespace Go.S
open Go Go.Eng

abbrev I64 (x : Int) : Prop := -9223372036854775808 ≤ x ∧ x ≤ 9223372036854775807

def within (off len total : Int) : Bool := decide (0 ≤ off) && decide (0 ≤ len) && decide (0 ≤ total) && decide (off ≤ total) && decide (len ≤ total - off)
theorem within_iff {off len total : Int} : within off len total = true ↔ 0 ≤ off ∧ 0 ≤ len ∧ 0 ≤ total ∧ off ≤ total ∧ len ≤ total - off := by
  simp [within, and_assoc]
def align (n to : Int) : Int × Int :=
  if n < 0 ∨ to < 1 ∨ to > 65536 then (0, 12) else if n > 4611686018427387904 then (0, 11)
  else if (n + to - 1) / to * to ≤ 4611686018427387904 then ((n + to - 1) / to * to, 0) else (0, 11)
/-- The number whose bytes they are, the highest first. -/
def beN : List UInt8 → Nat := List.foldl (fun n b => n * 256 + b.toNat) 0
def get (bs : List UInt8) (off size : Int) : Int × Int :=
  if size < 1 ∨ size > 8 then (0, 12) else if within off size bs.length = false then (0, 10)
  else if beN ((bs.drop off.toNat).take size.toNat) ≥ 9223372036854775808 then (0, 11) else ((beN ((bs.drop off.toNat).take size.toNat) : Int), 0)
/-- A number's lowest 'size' bytes, the highest first. -/
def be : Nat → Nat → List UInt8
  | 0, _ => []
  | s + 1, n => be s (n / 256) ++ [UInt8.ofNat n]
def put (bs : List UInt8) (size n : Int) : List UInt8 × Int :=
  if size < 1 ∨ size > 8 then ([], 12) else if n < 0 ∨ size < 8 ∧ n / 256 ^ size.toNat ≠ 0 then ([], 11) else (bs ++ be size.toNat n.toNat, 0)
def cut (bs : List UInt8) (off len : Int) : List UInt8 × Int := if within off len bs.length = false then ([], 10) else ((bs.drop off.toNat).take len.toNat, 0)
def pad (bs : List UInt8) (to : Int) : List UInt8 × Int :=
  if (align bs.length to).2 ≠ 0 then ([], (align bs.length to).2) else (bs ++ List.replicate ((align bs.length to).1.toNat - bs.length) 0, 0)
def zeros (bs : List UInt8) : Bool := bs.all (· == 0)

theorem be_length (s n : Nat) : (be s n).length = s := by
  induction s generalizing n with
  | zero => rfl
  | succ s ih => simp [be, ih]
theorem beN_append (as bs : List UInt8) : beN (as ++ bs) = beN as * 256 ^ bs.length + beN bs := by
  have key : ∀ (bs : List UInt8) (x : Nat), List.foldl (fun n (b : UInt8) => n * 256 + b.toNat) x bs = x * 256 ^ bs.length + beN bs := by
    intro bs
    induction bs with
    | nil => intro x; simp [beN]
    | cons b bs ih =>
      intro x
      simp only [List.foldl_cons, List.length_cons, beN]
      rw [ih, ih (0 * 256 + b.toNat), Nat.pow_succ]
      have : (x * 256 + b.toNat) * 256 ^ bs.length = x * (256 ^ bs.length * 256) + b.toNat * 256 ^ bs.length := by rw [Nat.add_mul, Nat.mul_assoc, Nat.mul_comm 256]
      rw [this, Nat.zero_mul, Nat.zero_add]
      omega
  unfold beN
  rw [List.foldl_append, key]
  rfl
theorem beN_snoc (as : List UInt8) (b : UInt8) : beN (as ++ [b]) = beN as * 256 + b.toNat := by rw [beN_append]; simp [beN]
theorem beN_lt (bs : List UInt8) : beN bs < 256 ^ bs.length := by
  have key : ∀ (n : Nat) (bs : List UInt8), bs.length = n → beN bs < 256 ^ n := by
    intro n
    induction n with
    | zero => intro bs h; have := List.eq_nil_of_length_eq_zero h; subst this; simp [beN]
    | succ n ih =>
      intro bs h
      have hne : bs ≠ [] := by intro h0; subst h0; simp at h
      have hd := List.dropLast_concat_getLast hne
      have hl := ih bs.dropLast (by simp [h])
      have hb := (bs.getLast hne).toNat_lt
      rw [← hd, beN_snoc, Nat.pow_succ]
      omega
  exact key _ bs rfl
theorem beN_be (s n : Nat) (h : n < 256 ^ s) : beN (be s n) = n := by
  induction s generalizing n with
  | zero => simp at h; subst h; rfl
  | succ s ih =>
    rw [be, beN_snoc, ih _ (by rw [Nat.pow_succ] at h; omega)]
    have : (UInt8.ofNat n).toNat = n % 256 := by simp
    omega
/-- One byte less at the end. -/
theorem be_shift (s j n : Nat) : be (s + 1) (n / 256 ^ j) = be s (n / 256 ^ (j + 1)) ++ [UInt8.ofNat (n / 256 ^ j)] := by
  rw [be, Nat.pow_succ, ← Nat.div_div_eq_div_mul]
end Go.S
