/- Layer 1 (span) as plain functions over lists of bytes and numbers, and what is true of them. / Layer 1 (span): what its laws ask of the plain functions. / Layer 10 (drive): a drive as plain data. -/
import Derived.Test.YteopoodhclljjaaDoorNum
import GoSem.Op.String
set_option linter.unusedSimpArgs false
set_option linter.unusedVariables false
/-! Pure01 -/
namespace Go.S
open Go Go.Eng

abbrev I64 (x : Int) : Prop := -9223372036854775808 ≤ x ∧ x ≤ 9223372036854775807

def within (off len total : Int) : Bool := decide (0 ≤ off) && decide (0 ≤ len) && decide (0 ≤ total) && decide (off ≤ total) && decide (len ≤ total - off)
theorem within_iff {off len total : Int} : within off len total = true ↔ 0 ≤ off ∧ 0 ≤ len ∧ 0 ≤ total ∧ off ≤ total ∧ len ≤ total - off := by
  simp [within, and_assoc]
def align (n to : Int) : Int × Int :=
  if n < 0 ∨ to < 1 ∨ to > 65536 then (0, 12) else if n > 4611686018427387904 then (0, 11)
  else if (n + to - 1) / to * to ≤ 4611686018427387904 then ((n + to - 1) / to * to, 0) else (0, 11)
/-- The number whose bytes they are, the highest first. -/
def beN : List UInt8 → Nat := List.foldl (fun n b => n * 256 + b.toNat) 0
def get (bs : List UInt8) (off size : Int) : Int × Int :=
  if size < 1 ∨ size > 8 then (0, 12) else if within off size bs.length = false then (0, 10)
  else if beN ((bs.drop off.toNat).take size.toNat) ≥ 9223372036854775808 then (0, 11) else ((beN ((bs.drop off.toNat).take size.toNat) : Int), 0)
/-- A number's lowest 'size' bytes, the highest first. -/
def be : Nat → Nat → List UInt8
  | 0, _ => []
  | s + 1, n => be s (n / 256) ++ [UInt8.ofNat n]
def put (bs : List UInt8) (size n : Int) : List UInt8 × Int :=
  if size < 1 ∨ size > 8 then ([], 12) else if n < 0 ∨ size < 8 ∧ n / 256 ^ size.toNat ≠ 0 then ([], 11) else (bs ++ be size.toNat n.toNat, 0)
def cut (bs : List UInt8) (off len : Int) : List UInt8 × Int := if within off len bs.length = false then ([], 10) else ((bs.drop off.toNat).take len.toNat, 0)
def pad (bs : List UInt8) (to : Int) : List UInt8 × Int :=
  if (align bs.length to).2 ≠ 0 then ([], (align bs.length to).2) else (bs ++ List.replicate ((align bs.length to).1.toNat - bs.length) 0, 0)
def zeros (bs : List UInt8) : Bool := bs.all (· == 0)

theorem be_length (s n : Nat) : (be s n).length = s := by
  induction s generalizing n with
  | zero => rfl
  | succ s ih => simp [be, ih]
theorem beN_append (as bs : List UInt8) : beN (as ++ bs) = beN as * 256 ^ bs.length + beN bs := by
  have key : ∀ (bs : List UInt8) (x : Nat), List.foldl (fun n (b : UInt8) => n * 256 + b.toNat) x bs = x * 256 ^ bs.length + beN bs := by
    intro bs
    induction bs with
    | nil => intro x; simp [beN]
    | cons b bs ih =>
      intro x
      simp only [List.foldl_cons, List.length_cons, beN]
      rw [ih, ih (0 * 256 + b.toNat), Nat.pow_succ]
      have : (x * 256 + b.toNat) * 256 ^ bs.length = x * (256 ^ bs.length * 256) + b.toNat * 256 ^ bs.length := by rw [Nat.add_mul, Nat.mul_assoc, Nat.mul_comm 256]
      rw [this, Nat.zero_mul, Nat.zero_add]
      omega
  unfold beN
  rw [List.foldl_append, key]
  rfl
theorem beN_snoc (as : List UInt8) (b : UInt8) : beN (as ++ [b]) = beN as * 256 + b.toNat := by rw [beN_append]; simp [beN]
theorem beN_lt (bs : List UInt8) : beN bs < 256 ^ bs.length := by
  have key : ∀ (n : Nat) (bs : List UInt8), bs.length = n → beN bs < 256 ^ n := by
    intro n
    induction n with
    | zero => intro bs h; have := List.eq_nil_of_length_eq_zero h; subst this; simp [beN]
    | succ n ih =>
      intro bs h
      have hne : bs ≠ [] := by intro h0; subst h0; simp at h
      have hd := List.dropLast_concat_getLast hne
      have hl := ih bs.dropLast (by simp [h])
      have hb := (bs.getLast hne).toNat_lt
      rw [← hd, beN_snoc, Nat.pow_succ]
      omega
  exact key _ bs rfl
theorem beN_be (s n : Nat) (h : n < 256 ^ s) : beN (be s n) = n := by
  induction s generalizing n with
  | zero => simp at h; subst h; rfl
  | succ s ih =>
    rw [be, beN_snoc, ih _ (by rw [Nat.pow_succ] at h; omega)]
    have : (UInt8.ofNat n).toNat = n % 256 := by simp
    omega
/-- One byte less at the end. -/
theorem be_shift (s j n : Nat) : be (s + 1) (n / 256 ^ j) = be s (n / 256 ^ (j + 1)) ++ [UInt8.ofNat (n / 256 ^ j)] := by
  rw [be, Nat.pow_succ, ← Nat.div_div_eq_div_mul]
end Go.S

/-! Pure01b -/
namespace Go.S
open Go Go.Eng

theorem beN_nil : beN [] = 0 := rfl
theorem beN_cons (b : UInt8) (t : List UInt8) : beN (b :: t) = b.toNat * 256 ^ t.length + beN t := by
  have := beN_append [b] t
  simpa [beN] using this
theorem beN_take_le (bs : List UInt8) (k : Nat) : beN (bs.take k) ≤ beN bs := by
  have h := beN_append (bs.take k) (bs.drop k)
  rw [List.take_append_drop] at h
  have : beN (bs.take k) * 1 ≤ beN (bs.take k) * 256 ^ (bs.drop k).length := Nat.mul_le_mul_left _ (Nat.pow_pos (by omega))
  omega
/-- Eight bytes: too great for an int just if the first one is above 127. -/
theorem beN_eight {bs : List UInt8} (h : bs.length = 8) : beN bs ≥ 9223372036854775808 ↔ (bs[0]'(by omega)).toNat > 127 := by
  match bs, h with
  | b :: t, h =>
    have hl : t.length = 7 := by simpa using h
    have ht := beN_lt t
    rw [beN_cons, hl]
    rw [hl] at ht
    simp only [List.getElem_cons_zero]
    generalize beN t = x at *
    omega
theorem beN_small {bs : List UInt8} (h : bs.length < 8) : beN bs < 9223372036854775808 := by
  have := beN_lt bs
  have h2 : 256 ^ bs.length ≤ 256 ^ 7 := Nat.pow_le_pow_right (by omega) (by omega)
  omega
theorem pow_int (n k : Nat) : (n : Int) / 256 ^ k = ((n / 256 ^ k : Nat) : Int) := by simp
/-- What was put is got. -/
theorem get_put (bs : List UInt8) (size n : Nat) (h1 : 1 ≤ size) (h8 : size ≤ 8) (hn : n < 256 ^ size) (hb : n < 9223372036854775808) : get (bs ++ be size n) bs.length size = ((n : Int), 0) := by
  unfold get
  rw [if_neg (by omega)]
  have hw : within bs.length size (bs ++ be size n).length = true := within_iff.2 (by simp [be_length]; omega)
  rw [if_neg (by rw [hw]; simp)]
  have : ((bs ++ be size n).drop (bs.length : Int).toNat).take (size : Int).toNat = be size n := by
    simp [List.drop_left', List.take_of_length_le (Nat.le_of_eq (be_length size n))]
  rw [this, beN_be _ _ hn, if_neg (by omega)]
theorem put_ok {bs : List UInt8} {size n : Int} (h : (put bs size n).2 = 0) : 1 ≤ size ∧ size ≤ 8 ∧ 0 ≤ n ∧ (size < 8 → n / 256 ^ size.toNat = 0) ∧ (put bs size n).1 = bs ++ be size.toNat n.toNat := by
  unfold put at h ⊢
  split at h
  · simp at h
  · rename_i h1
    split at h
    · simp at h
    · rename_i h2
      rw [if_neg h1, if_neg h2]
      exact ⟨by omega, by omega, by omega, fun h8 => Classical.not_not.1 fun h9 => h2 (.inr ⟨h8, h9⟩), rfl⟩
theorem room {size n : Nat} (hs : size ≤ 8) (hb : n < 9223372036854775808) (h : size < 8 → n / 256 ^ size = 0) : n < 256 ^ size := by
  by_cases h8 : size < 8
  · have := h h8
    have hp : 0 < 256 ^ size := Nat.pow_pos (by omega)
    exact (Nat.div_eq_zero_iff_lt hp).1 this
  · have : size = 8 := by omega
    subst this
    omega
theorem bytesLess_be (s : Nat) : ∀ (a b : List UInt8), a.length = s → b.length = s → Op.bytesLess a b = decide (beN a < beN b) := by
  induction s with
  | zero =>
    intro a b ha hb
    rw [List.eq_nil_of_length_eq_zero ha, List.eq_nil_of_length_eq_zero hb]
    simp [Op.bytesLess]
  | succ s ih =>
    intro a b ha hb
    match a, b, ha, hb with
    | x :: a, y :: b, ha, hb =>
      have la : a.length = s := by simpa using ha
      have lb : b.length = s := by simpa using hb
      rw [Op.bytesLess, ih a b la lb, beN_cons, beN_cons, la, lb]
      have h1 := beN_lt a
      have h2 := beN_lt b
      rw [la] at h1
      rw [lb] at h2
      have e1 : decide (x < y) = decide (x.toNat < y.toNat) := by rw [decide_eq_decide]; exact UInt8.lt_iff_toNat_lt
      have e2 : (x == y) = decide (x.toNat = y.toNat) := by
        rw [Bool.eq_iff_iff]; simp [UInt8.toNat_inj]
      rw [e1, e2]
      generalize x.toNat = p
      generalize y.toNat = q
      generalize beN a = u at *
      generalize beN b = v at *
      generalize 256 ^ s = m at *
      rw [Bool.eq_iff_iff]
      simp only [Bool.or_eq_true, Bool.and_eq_true, decide_eq_true_eq]
      rcases Nat.lt_trichotomy p q with h | h | h
      · have : (p + 1) * m ≤ q * m := Nat.mul_le_mul_right _ h
        rw [Nat.add_mul] at this
        constructor <;> intro <;> first | omega | exact .inl h
      · subst h
        constructor
        · rintro (h | ⟨_, h⟩) <;> omega
        · intro h; exact .inr ⟨rfl, by omega⟩
      · have : (q + 1) * m ≤ p * m := Nat.mul_le_mul_right _ h
        rw [Nat.add_mul] at this
        constructor
        · rintro (h' | ⟨h', _⟩) <;> omega
        · intro h'; omega
theorem beN_inj {a b : List UInt8} (hl : a.length = b.length) : a = b ↔ beN a = beN b := by
  constructor
  · rintro rfl; rfl
  · intro h
    have key : ∀ (s : Nat) (a b : List UInt8), a.length = s → b.length = s → beN a = beN b → a = b := by
      intro s
      induction s with
      | zero => intro a b ha hb _; rw [List.eq_nil_of_length_eq_zero ha, List.eq_nil_of_length_eq_zero hb]
      | succ s ih =>
        intro a b ha hb h
        match a, b, ha, hb with
        | x :: a, y :: b, ha, hb =>
          have la : a.length = s := by simpa using ha
          have lb : b.length = s := by simpa using hb
          rw [beN_cons, beN_cons, la, lb] at h
          have h1 := beN_lt a
          have h2 := beN_lt b
          rw [la] at h1
          rw [lb] at h2
          have hm : 0 < 256 ^ s := Nat.pow_pos (by omega)
          have hxy : x.toNat = y.toNat := by
            have e1 : (x.toNat * 256 ^ s + beN a) / 256 ^ s = x.toNat := by rw [Nat.mul_comm, Nat.mul_add_div hm, Nat.div_eq_of_lt h1]; rfl
            have e2 : (y.toNat * 256 ^ s + beN b) / 256 ^ s = y.toNat := by rw [Nat.mul_comm, Nat.mul_add_div hm, Nat.div_eq_of_lt h2]; rfl
            rw [← e1, ← e2, h]
          rw [hxy] at h
          rw [UInt8.toNat_inj.1 hxy, ih a b la lb (by omega)]
    exact key _ a b rfl hl.symm h
theorem cut_ok {bs : List UInt8} {off len : Int} : (cut bs off len).2 = if within off len bs.length then 0 else 10 := by
  unfold cut; cases within off len bs.length <;> rfl
end Go.S

/-! Pure10 -/
namespace Go.S
open Go Go.Eng

structure Area where
  name : List UInt8
  b : List UInt8
  bad : Int → Bool
instance : Inhabited Area := ⟨⟨[], [], fun _ => false⟩⟩
def Area.setB (a : Area) (b : List UInt8) : Area := ⟨a.name, b, a.bad⟩
def Area.setBad (a : Area) (f : Int → Bool) : Area := ⟨a.name, a.b, f⟩
@[simp] theorem Area.setB_b (a : Area) (b : List UInt8) : (a.setB b).b = b := rfl
@[simp] theorem Area.setB_name (a : Area) (b : List UInt8) : (a.setB b).name = a.name := rfl
@[simp] theorem Area.setB_bad (a : Area) (b : List UInt8) : (a.setB b).bad = a.bad := rfl
@[simp] theorem Area.setB_setB (a : Area) (b c : List UInt8) : (a.setB b).setB c = a.setB c := rfl
@[simp] theorem Area.setB_self (a : Area) : a.setB a.b = a := rfl
@[simp] theorem Area.setBad_b (a : Area) (f : Int → Bool) : (a.setBad f).b = a.b := rfl
@[simp] theorem Area.setBad_name (a : Area) (f : Int → Bool) : (a.setBad f).name = a.name := rfl
@[simp] theorem Area.setBad_bad (a : Area) (f : Int → Bool) : (a.setBad f).bad = f := rfl
structure Drv where
  as : List Area
  left : Int
  keep : List Bool
  down : Bool
  count : Int
  bytes : Int
namespace Drv
def at? (D : Drv) (name : List UInt8) : Option Nat := D.as.findIdx? fun a => a.name == name
def ar (D : Drv) (i : Nat) : Area := D.as.getD i default
def set (D : Drv) (i : Nat) (a : Area) : Drv := { D with as := D.as.set i a }
/-- The error of a stretch. -/
def err (D : Drv) (name : List UInt8) (off len : Int) : Int := if D.down then 42 else match D.at? name with
  | none => 40
  | some i => if within off len (D.ar i).b.length then 0 else 10
end Drv
/-- How many sectors a stretch touches. -/
def nS (off len : Int) : Int := if len = 0 then 0 else (off + len - 1) / 64 - off / 64 + 1
def Area.badIn (a : Area) (off len : Int) : Bool := (List.range (nS off len).toNat).any fun k => a.bad (off / 64 + k)
/-- Bytes behind a write of some of them. -/
def over (old bs : List UInt8) (off : Nat) (p : Nat → Bool) : List UInt8 := (List.range old.length).map fun i => if off ≤ i ∧ i < off + bs.length ∧ p (i / 64 - off / 64) then bs.getD (i - off) 0 else old.getD i 0
def xorAt (old xs : List UInt8) (off : Nat) : List UInt8 := (List.range old.length).map fun k => if off ≤ k ∧ k < off + xs.length then old.getD k 0 ^^^ xs.getD (k - off) 0 else old.getD k 0
def cap60 (x : Int) : Int := if 1152921504606846976 < x then 1152921504606846976 else x
namespace Drv
def read (D : Drv) (name : List UInt8) (off len : Int) : List UInt8 × Int × Drv :=
  if D.err name off len ≠ 0 then ([], D.err name off len, D) else
    let i := (D.at? name).getD 0
    if (D.ar i).badIn off len then ([], 41, D) else (((D.ar i).b.drop off.toNat).take len.toNat, 0, { D with count := cap60 (D.count + 1), bytes := cap60 (D.bytes + len) })
def write (D : Drv) (name : List UInt8) (off : Int) (bs : List UInt8) : Int × Drv :=
  if D.err name off bs.length ≠ 0 then (D.err name off bs.length, D) else
    let i := (D.at? name).getD 0
    if D.left ≠ 0 then (0, { D.set i ((D.ar i).setB (over (D.ar i).b bs off.toNat fun _ => true)) with left := max (D.left - 1) (-1) })
    else (42, { D.set i ((D.ar i).setB (over (D.ar i).b bs off.toNat fun k => D.keep.getD k false)) with down := true })
def turn (D : Drv) (name : List UInt8) (off : Int) (xs : List UInt8) : Bool × Drv := match D.at? name with
  | none => (false, D)
  | some i => if within off xs.length (D.ar i).b.length then (true, D.set i ((D.ar i).setB (xorAt (D.ar i).b xs off.toNat))) else (false, D)
def badS (D : Drv) (name : List UInt8) (sector : Int) (on : Bool) : Bool × Drv := match D.at? name with
  | none => (false, D)
  | some i => if sector < 0 ∨ sector ≥ ((D.ar i).b.length : Int) / 64 then (false, D) else (true, D.set i ((D.ar i).setBad fun k => if k = sector then on else (D.ar i).bad k))
def arm (D : Drv) (n : Int) (keep : List Bool) : Drv := { D with left := max n (-1), keep := keep }
def boot (D : Drv) : Drv := { D with left := -1, down := false }
def size (D : Drv) (name : List UInt8) : Int × Int := match D.at? name with
  | none => (0, 40)
  | some i => ((D.ar i).b.length, 0)
def fresh (parts : List (List UInt8 × Int)) : Drv := ⟨parts.map fun p => ⟨p.1, List.replicate p.2.toNat 0, fun _ => false⟩, -1, [], false, 0, 0⟩
theorem at?_lt {D : Drv} {name : List UInt8} {i : Nat} (h : D.at? name = some i) : i < D.as.length := by
  unfold at? at h
  rw [List.findIdx?_eq_some_iff_getElem] at h
  exact h.1
theorem ar_at {D : Drv} {i : Nat} (h : i < D.as.length) : D.as[i]? = some (D.ar i) := by simp [ar, h]
theorem at?_set {D : Drv} {i : Nat} {a : Area} (h : a.name = (D.ar i).name) (name : List UInt8) : (D.set i a).at? name = D.at? name := by
  unfold at? set
  simp only
  by_cases hi : i < D.as.length
  · have hn : (D.as.set i a).map (·.name) = D.as.map (·.name) := by
      rw [List.map_set, h]
      apply List.ext_getElem?
      intro j
      rw [List.getElem?_set]
      by_cases hij : i = j
      · subst hij
        simp [hi, ar]
      · simp [hij]
    have key : ∀ l : List Area, l.findIdx? (fun a => a.name == name) = (l.map (·.name)).findIdx? (· == name) := fun l => by rw [List.findIdx?_map]; rfl
    rw [key, key, hn]
  · rw [List.set_eq_of_length_le (by omega)]
theorem at?_congr {D D' : Drv} (h : D'.as = D.as) (name : List UInt8) : D'.at? name = D.at? name := by unfold at?; rw [h]
end Drv
theorem over_length (old bs : List UInt8) (off : Nat) (p : Nat → Bool) : (over old bs off p).length = old.length := by simp [over]
end Go.S
