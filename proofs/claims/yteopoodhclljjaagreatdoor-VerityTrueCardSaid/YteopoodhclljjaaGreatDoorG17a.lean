/- Layer 1 (span) as plain functions over lists of bytes and numbers, and what is true of them. / Layer 1 (span): what its laws ask of the plain functions. / Layer 10 (drive): a drive as plain data. -/
import Derived.Test.YteopoodhclljjaaGreatDoorNum
import GoSem.Op.String
set_option linter.unusedSimpArgs false
set_option linter.unusedVariables false
/-! Pure01 -/
namespace Go.S
open Go Go.Eng

abbrev I64 (x : Int) : Prop := -9223372036854775808 ≤ x ∧ x ≤ 9223372036854775807

def within (off len total : Int) : Bool := decide (0 ≤ off) && decide (0 ≤ len) && decide (0 ≤ total) && decide (off ≤ total) && decide (len ≤ total - off)
theorem within_iff {off len total : Int} : within off len total = true ↔ 0 ≤ off ∧ 0 ≤ len ∧ 0 ≤ total ∧ off ≤ total ∧ len ≤ total - off := by
  simp [within, and_assoc]
def align (n to : Int) : Int × Int :=
  if n < 0 ∨ to < 1 ∨ to > 65536 then (0, 12) else if n > 4611686018427387904 then (0, 11)
  else if (n + to - 1) / to * to ≤ 4611686018427387904 then ((n + to - 1) / to * to, 0) else (0, 11)
/-- The number whose bytes they are, the highest first. -/
def beN : List UInt8 → Nat := List.foldl (fun n b => n * 256 + b.toNat) 0
/-- A number's lowest 'size' bytes, the highest first. -/
def be : Nat → Nat → List UInt8
  | 0, _ => []
  | s + 1, n => be s (n / 256) ++ [UInt8.ofNat n]
def put (bs : List UInt8) (size n : Int) : List UInt8 × Int :=
  if size < 1 ∨ size > 8 then ([], 12) else if n < 0 ∨ size < 8 ∧ n / 256 ^ size.toNat ≠ 0 then ([], 11) else (bs ++ be size.toNat n.toNat, 0)
def cut (bs : List UInt8) (off len : Int) : List UInt8 × Int := if within off len bs.length = false then ([], 10) else ((bs.drop off.toNat).take len.toNat, 0)
def pad (bs : List UInt8) (to : Int) : List UInt8 × Int :=
  if (align bs.length to).2 ≠ 0 then ([], (align bs.length to).2) else (bs ++ List.replicate ((align bs.length to).1.toNat - bs.length) 0, 0)

theorem be_length (s n : Nat) : (be s n).length = s := by
  induction s generalizing n with
  | zero => rfl
  | succ s ih => simp [be, ih]
theorem beN_append (as bs : List UInt8) : beN (as ++ bs) = beN as * 256 ^ bs.length + beN bs := by
  have key : ∀ (bs : List UInt8) (x : Nat), List.foldl (fun n (b : UInt8) => n * 256 + b.toNat) x bs = x * 256 ^ bs.length + beN bs := by
    intro bs
    induction bs with
    | nil => intro x; simp [beN]
    | cons b bs ih =>
      intro x
      simp only [List.foldl_cons, List.length_cons, beN]
      rw [ih, ih (0 * 256 + b.toNat), Nat.pow_succ]
      have : (x * 256 + b.toNat) * 256 ^ bs.length = x * (256 ^ bs.length * 256) + b.toNat * 256 ^ bs.length := by rw [Nat.add_mul, Nat.mul_assoc, Nat.mul_comm 256]
      rw [this, Nat.zero_mul, Nat.zero_add]
      omega
  unfold beN
  rw [List.foldl_append, key]
  rfl
theorem beN_snoc (as : List UInt8) (b : UInt8) : beN (as ++ [b]) = beN as * 256 + b.toNat := by rw [beN_append]; simp [beN]
theorem beN_lt (bs : List UInt8) : beN bs < 256 ^ bs.length := by
  have key : ∀ (n : Nat) (bs : List UInt8), bs.length = n → beN bs < 256 ^ n := by
    intro n
    induction n with
    | zero => intro bs h; have := List.eq_nil_of_length_eq_zero h; subst this; simp [beN]
    | succ n ih =>
      intro bs h
      have hne : bs ≠ [] := by intro h0; subst h0; simp at h
      have hd := List.dropLast_concat_getLast hne
      have hl := ih bs.dropLast (by simp [h])
      have hb := (bs.getLast hne).toNat_lt
      rw [← hd, beN_snoc, Nat.pow_succ]
      omega
  exact key _ bs rfl
/-- One byte less at the end. -/
theorem be_shift (s j n : Nat) : be (s + 1) (n / 256 ^ j) = be s (n / 256 ^ (j + 1)) ++ [UInt8.ofNat (n / 256 ^ j)] := by
  rw [be, Nat.pow_succ, ← Nat.div_div_eq_div_mul]
end Go.S

/-! Pure01b -/
namespace Go.S
open Go Go.Eng

end Go.S

/-! Pure10 -/
namespace Go.S
open Go Go.Eng

structure Area where
  name : List UInt8
  b : List UInt8
  bad : Int → Bool
instance : Inhabited Area := ⟨⟨[], [], fun _ => false⟩⟩
def Area.setB (a : Area) (b : List UInt8) : Area := ⟨a.name, b, a.bad⟩
def Area.setBad (a : Area) (f : Int → Bool) : Area := ⟨a.name, a.b, f⟩
@[simp] theorem Area.setB_b (a : Area) (b : List UInt8) : (a.setB b).b = b := rfl
@[simp] theorem Area.setB_name (a : Area) (b : List UInt8) : (a.setB b).name = a.name := rfl
@[simp] theorem Area.setB_bad (a : Area) (b : List UInt8) : (a.setB b).bad = a.bad := rfl
@[simp] theorem Area.setB_setB (a : Area) (b c : List UInt8) : (a.setB b).setB c = a.setB c := rfl
@[simp] theorem Area.setB_self (a : Area) : a.setB a.b = a := rfl
@[simp] theorem Area.setBad_b (a : Area) (f : Int → Bool) : (a.setBad f).b = a.b := rfl
@[simp] theorem Area.setBad_name (a : Area) (f : Int → Bool) : (a.setBad f).name = a.name := rfl
@[simp] theorem Area.setBad_bad (a : Area) (f : Int → Bool) : (a.setBad f).bad = f := rfl
structure Drv where
  as : List Area
  left : Int
  keep : List Bool
  down : Bool
  count : Int
  bytes : Int
namespace Drv
def at? (D : Drv) (name : List UInt8) : Option Nat := D.as.findIdx? fun a => a.name == name
def ar (D : Drv) (i : Nat) : Area := D.as.getD i default
def set (D : Drv) (i : Nat) (a : Area) : Drv := { D with as := D.as.set i a }
/-- The error of a stretch. -/
def err (D : Drv) (name : List UInt8) (off len : Int) : Int := if D.down then 42 else match D.at? name with
  | none => 40
  | some i => if within off len (D.ar i).b.length then 0 else 10
end Drv
/-- How many sectors a stretch touches. -/
def nS (off len : Int) : Int := if len = 0 then 0 else (off + len - 1) / 64 - off / 64 + 1
def Area.badIn (a : Area) (off len : Int) : Bool := (List.range (nS off len).toNat).any fun k => a.bad (off / 64 + k)
/-- Bytes behind a write of some of them. -/
def over (old bs : List UInt8) (off : Nat) (p : Nat → Bool) : List UInt8 := (List.range old.length).map fun i => if off ≤ i ∧ i < off + bs.length ∧ p (i / 64 - off / 64) then bs.getD (i - off) 0 else old.getD i 0
def xorAt (old xs : List UInt8) (off : Nat) : List UInt8 := (List.range old.length).map fun k => if off ≤ k ∧ k < off + xs.length then old.getD k 0 ^^^ xs.getD (k - off) 0 else old.getD k 0
def cap60 (x : Int) : Int := if 1152921504606846976 < x then 1152921504606846976 else x
namespace Drv
def read (D : Drv) (name : List UInt8) (off len : Int) : List UInt8 × Int × Drv :=
  if D.err name off len ≠ 0 then ([], D.err name off len, D) else
    let i := (D.at? name).getD 0
    if (D.ar i).badIn off len then ([], 41, D) else (((D.ar i).b.drop off.toNat).take len.toNat, 0, { D with count := cap60 (D.count + 1), bytes := cap60 (D.bytes + len) })
def write (D : Drv) (name : List UInt8) (off : Int) (bs : List UInt8) : Int × Drv :=
  if D.err name off bs.length ≠ 0 then (D.err name off bs.length, D) else
    let i := (D.at? name).getD 0
    if D.left ≠ 0 then (0, { D.set i ((D.ar i).setB (over (D.ar i).b bs off.toNat fun _ => true)) with left := max (D.left - 1) (-1) })
    else (42, { D.set i ((D.ar i).setB (over (D.ar i).b bs off.toNat fun k => D.keep.getD k false)) with down := true })
def turn (D : Drv) (name : List UInt8) (off : Int) (xs : List UInt8) : Bool × Drv := match D.at? name with
  | none => (false, D)
  | some i => if within off xs.length (D.ar i).b.length then (true, D.set i ((D.ar i).setB (xorAt (D.ar i).b xs off.toNat))) else (false, D)
def badS (D : Drv) (name : List UInt8) (sector : Int) (on : Bool) : Bool × Drv := match D.at? name with
  | none => (false, D)
  | some i => if sector < 0 ∨ sector ≥ ((D.ar i).b.length : Int) / 64 then (false, D) else (true, D.set i ((D.ar i).setBad fun k => if k = sector then on else (D.ar i).bad k))
def size (D : Drv) (name : List UInt8) : Int × Int := match D.at? name with
  | none => (0, 40)
  | some i => ((D.ar i).b.length, 0)
def fresh (parts : List (List UInt8 × Int)) : Drv := ⟨parts.map fun p => ⟨p.1, List.replicate p.2.toNat 0, fun _ => false⟩, -1, [], false, 0, 0⟩
theorem at?_lt {D : Drv} {name : List UInt8} {i : Nat} (h : D.at? name = some i) : i < D.as.length := by
  unfold at? at h
  rw [List.findIdx?_eq_some_iff_getElem] at h
  exact h.1
theorem at?_set {D : Drv} {i : Nat} {a : Area} (h : a.name = (D.ar i).name) (name : List UInt8) : (D.set i a).at? name = D.at? name := by
  unfold at? set
  simp only
  by_cases hi : i < D.as.length
  · have hn : (D.as.set i a).map (·.name) = D.as.map (·.name) := by
      rw [List.map_set, h]
      apply List.ext_getElem?
      intro j
      rw [List.getElem?_set]
      by_cases hij : i = j
      · subst hij
        simp [hi, ar]
      · simp [hij]
    have key : ∀ l : List Area, l.findIdx? (fun a => a.name == name) = (l.map (·.name)).findIdx? (· == name) := fun l => by rw [List.findIdx?_map]; rfl
    rw [key, key, hn]
  · rw [List.set_eq_of_length_le (by omega)]
theorem at?_congr {D D' : Drv} (h : D'.as = D.as) (name : List UInt8) : D'.at? name = D.at? name := by unfold at?; rw [h]
end Drv
theorem over_length (old bs : List UInt8) (off : Nat) (p : Nat → Bool) : (over old bs off p).length = old.length := by simp [over]
end Go.S
