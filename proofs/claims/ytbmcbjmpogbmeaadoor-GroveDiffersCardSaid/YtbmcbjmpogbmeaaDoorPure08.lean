/- Layer 8 (place): a shape, its levels, and a number's ones, as plain data. -/
import Derived.Test.YtbmcbjmpogbmeaaDoorNum
import Derived.Test.YtbmcbjmpogbmeaaDoorFlt
set_option linter.unusedSimpArgs false
set_option linter.unusedVariables false
namespace Go.S
open Go Go.Eng

/-- How many bytes an algorithm's digest has. -/
def dsz (alg : Int) : Int := if alg == 1 then 32 else if alg == 2 then 64 else 0
/-- A number through another one, rounded up. -/
def up (n a : Nat) : Nat := (n + a - 1) / a
def pows : List Nat := [64, 128, 256, 512, 1024, 2048, 4096]
structure Shp where
  s : Int
  b : Int
  d : Int
def Shp.right (x : Shp) : Bool := (decide (1 ≤ x.s) && decide (x.s ≤ 1099511627776)) && (x.d == 32 || x.d == 64) && decide (x.b ≥ 2 * x.d) && decide (x.b.toNat ∈ pows)
namespace Shp
def sN (x : Shp) : Nat := x.s.toNat
def bN (x : Shp) : Nat := x.b.toNat
def dN (x : Shp) : Nat := x.d.toNat
def aN (x : Shp) : Nat := x.bN / x.dN
/-- How many blocks a level has. -/
def c (x : Shp) : Nat → Nat
  | 0 => up x.sN x.bN
  | k + 1 => up (x.c k) x.aN
/-- The top level. -/
def h (x : Shp) : Nat := (List.range 64).findIdx fun k => decide (x.c k ≤ 1)
def cs (x : Shp) : List Nat := (List.range (x.h + 1)).map x.c
/-- How many blocks stand ahead of a level's, in the tree. -/
def sumA (x : Shp) (l : Nat) : Nat := (x.cs.drop (l + 1)).sum
structure Ok (x : Shp) : Prop where
  s : x.s = x.sN
  b : x.b = x.bN
  d : x.d = x.dN
  s1 : 1 ≤ x.sN
  s2 : x.sN ≤ 1099511627776
  b1 : 64 ≤ x.bN
  b2 : x.bN ≤ 4096
  dd : x.dN = 32 ∨ x.dN = 64
  a1 : 2 ≤ x.aN
  a2 : x.aN ≤ 128
  ba : x.bN = x.aN * x.dN
theorem ok_of {x : Shp} (h : x.right = true) : x.Ok := by
  unfold right at h
  simp only [Bool.and_eq_true, decide_eq_true_eq, Bool.or_eq_true, beq_iff_eq] at h
  obtain ⟨⟨⟨⟨h1, h2⟩, h3⟩, h4⟩, h5⟩ := h
  have hb : x.b.toNat = 64 ∨ x.b.toNat = 128 ∨ x.b.toNat = 256 ∨ x.b.toNat = 512 ∨ x.b.toNat = 1024 ∨ x.b.toNat = 2048 ∨ x.b.toNat = 4096 := by simpa [pows] using h5
  have hd : x.dN = 32 ∨ x.dN = 64 := by unfold dN; omega
  have hd2 : x.d = x.dN := by unfold dN; omega
  have hb2 : x.bN = 64 ∨ x.bN = 128 ∨ x.bN = 256 ∨ x.bN = 512 ∨ x.bN = 1024 ∨ x.bN = 2048 ∨ x.bN = 4096 := hb
  have hb3 : x.b = x.bN := by unfold bN; omega
  have hge : x.bN ≥ 2 * x.dN := by omega
  have ha : 2 ≤ x.aN ∧ x.aN ≤ 128 ∧ x.bN = x.aN * x.dN := by
    unfold aN
    rcases hd with e | e <;> rw [e] at hge ⊢ <;> rcases hb2 with q | q | q | q | q | q | q <;> rw [q] at hge ⊢ <;> omega
  exact ⟨by unfold sN; omega, hb3, hd2, by unfold sN; omega, by unfold sN; omega, by omega, by omega, hd, ha.1, ha.2.1, ha.2.2⟩
end Shp
theorem up_pos {n a : Nat} (hn : 1 ≤ n) (ha : 1 ≤ a) : 1 ≤ up n a := by
  unfold up
  rw [Nat.le_div_iff_mul_le (by omega)]; omega
theorem up_le {n a : Nat} (ha : 1 ≤ a) : up n a ≤ n := by
  unfold up
  rw [Nat.div_le_iff_le_mul_add_pred (by omega)]
  have := Nat.mul_le_mul_right n ha
  omega
theorem up_lt {n a : Nat} (hn : 2 ≤ n) (ha : 2 ≤ a) : up n a < n := by
  unfold up
  rw [Nat.div_lt_iff_lt_mul (by omega)]
  have h1 : n * 2 ≤ n * a := Nat.mul_le_mul_left n ha
  have h2 : 2 * a ≤ n * a := Nat.mul_le_mul_right a hn
  omega
theorem up_mono {n m a : Nat} (h : n ≤ m) : up n a ≤ up m a := by
  unfold up
  exact Nat.div_le_div_right (by omega)
theorem up_one {a : Nat} (ha : 1 ≤ a) : up 1 a = 1 := by
  unfold up
  rw [show 1 + a - 1 = a by omega, Nat.div_self (by omega)]
theorem up_half {n a m : Nat} (ha : 2 ≤ a) (h : n ≤ 2 ^ (m + 1)) : up n a ≤ 2 ^ m := by
  unfold up
  apply Nat.le_of_lt_succ
  rw [Nat.div_lt_iff_lt_mul (by omega)]
  have h1 : 2 ^ m * 2 ≤ 2 ^ m * a := Nat.mul_le_mul_left _ ha
  rw [Nat.pow_succ] at h
  rw [Nat.succ_mul]
  generalize 2 ^ m = p at h h1 ⊢
  generalize p * a = q at h1 ⊢
  omega
/-- Rounded up: the least number of whole rows that hold n. -/
theorem up_iff {n a k : Nat} (ha : 1 ≤ a) (hn : 1 ≤ n) : k < up n a ↔ k * a < n := by
  unfold up
  rw [Nat.lt_iff_add_one_le, Nat.le_div_iff_mul_le (by omega), Nat.succ_mul]
  omega
namespace Shp
variable {x : Shp}
theorem c_pos (o : x.Ok) : ∀ k, 1 ≤ x.c k
  | 0 => up_pos o.s1 (by have := o.b1; omega)
  | k + 1 => up_pos (c_pos o k) (by have := o.a1; omega)
theorem c_half (o : x.Ok) : ∀ k, k ≤ 34 → x.c k ≤ 2 ^ (34 - k)
  | 0, _ => by
    show up x.sN x.bN ≤ 2 ^ 34
    unfold up
    apply Nat.le_of_lt_succ
    rw [Nat.div_lt_iff_lt_mul (by have := o.b1; omega)]
    have := Nat.mul_le_mul_left (2 ^ 34 + 1) o.b1
    have h2 := o.s2
    have e : (2 : Nat) ^ 34 = 17179869184 := rfl
    rw [e] at this ⊢
    rw [show Nat.succ 17179869184 = 17179869184 + 1 by rfl, Nat.add_mul]
    have h3 := Nat.mul_le_mul_left 17179869184 o.b1
    omega
  | k + 1, h => by
    refine up_half o.a1 ?_
    rw [show 34 - (k + 1) + 1 = 34 - k by omega]
    exact c_half o k (by omega)
theorem c_le (o : x.Ok) (k : Nat) : x.c (k + 1) ≤ x.c k := up_le (by have := o.a1; omega)
theorem c_anti (o : x.Ok) {j k : Nat} (h : j ≤ k) : x.c k ≤ x.c j := by
  induction k with
  | zero => rw [show j = 0 by omega]; exact Nat.le_refl _
  | succ k ih =>
    by_cases hj : j = k + 1
    · rw [hj]; exact Nat.le_refl _
    · exact Nat.le_trans (c_le o k) (ih (by omega))
theorem c_max (o : x.Ok) (k : Nat) : x.c k ≤ 17179869184 := Nat.le_trans (c_anti o (Nat.zero_le k)) (c_half o 0 (by omega))
theorem c_lt (o : x.Ok) {k : Nat} (h : 1 < x.c k) : x.c (k + 1) < x.c k := up_lt h o.a1
theorem h_le (o : x.Ok) : x.h ≤ 34 := by
  unfold h
  apply Nat.le_of_lt_succ
  rw [Nat.lt_succ_iff]
  apply Classical.byContradiction
  intro hn
  have h1 := List.not_of_lt_findIdx (p := fun k => decide (x.c k ≤ 1)) (xs := List.range 64) (i := 34) (by omega)
  have h2 := c_half o 34 (by omega)
  simp at h1
  have e : (2 : Nat) ^ (34 - 34) = 1 := rfl
  omega
theorem h_top (o : x.Ok) : x.c x.h = 1 := by
  have hl := h_le o
  have h1 := List.findIdx_getElem (p := fun k => decide (x.c k ≤ 1)) (xs := List.range 64) (w := by show x.h < _; rw [List.length_range]; omega)
  simp only [List.getElem_range, decide_eq_true_eq] at h1
  have := c_pos o x.h
  have h2 : x.c x.h ≤ 1 := h1
  omega
theorem h_lt (o : x.Ok) {k : Nat} (hk : k < x.h) : 1 < x.c k := by
  have h1 := List.not_of_lt_findIdx (p := fun k => decide (x.c k ≤ 1)) (xs := List.range 64) (i := k) hk
  simp at h1
  exact h1
theorem h_iff (o : x.Ok) {k : Nat} : x.c k ≤ 1 ↔ x.h ≤ k := by
  constructor
  · intro h
    apply Classical.byContradiction
    intro hn
    have := h_lt o (k := k) (by omega)
    omega
  · intro h
    have := c_anti o h
    rw [h_top o] at this; exact this
theorem cs_len : x.cs.length = x.h + 1 := by simp [cs]
theorem cs_get {k : Nat} (hk : k ≤ x.h) : x.cs[k]? = some (x.c k) := by
  unfold cs
  rw [List.getElem?_map, List.getElem?_range (by omega)]; rfl
theorem sum_le {l : List Nat} {m : Nat} (h : ∀ y ∈ l, y ≤ m) : l.sum ≤ l.length * m := by
  induction l with
  | nil => simp
  | cons y l ih =>
    have h1 := h y (by simp)
    have h2 := ih fun z hz => h z (by simp [hz])
    rw [List.sum_cons, List.length_cons, Nat.succ_mul]; omega
theorem sum_take_le (l : List Nat) (k : Nat) : (l.take k).sum ≤ l.sum := by
  have : (l.take k).sum + (l.drop k).sum = l.sum := by rw [← List.sum_append, List.take_append_drop]
  omega
theorem cs_mem (o : x.Ok) {y : Nat} (h : y ∈ x.cs) : y ≤ 17179869184 := by
  obtain ⟨k, _, rfl⟩ := List.mem_map.1 h
  exact c_max o k
theorem sumA_le (o : x.Ok) (l : Nat) : x.sumA l ≤ 601295421440 := by
  have h1 := sum_le (l := x.cs.drop (l + 1)) (m := 17179869184) fun y hy => cs_mem o (List.mem_of_mem_drop hy)
  have h2 : (x.cs.drop (l + 1)).length ≤ 35 := by rw [List.length_drop, cs_len]; have := h_le o; omega
  have h3 := Nat.mul_le_mul_right 17179869184 h2
  unfold sumA
  omega
theorem sumA_step {l : Nat} (hl : l < x.h) : x.sumA l = x.c (l + 1) + x.sumA (l + 1) := by
  unfold sumA
  have hlt : l + 1 < x.cs.length := by rw [cs_len]; omega
  rw [List.drop_eq_getElem_cons hlt, List.sum_cons]
  congr 1
  have := cs_get (x := x) (k := l + 1) (by omega)
  rw [List.getElem?_eq_getElem hlt] at this
  exact Option.some.inj this
theorem sumA_top : x.sumA x.h = 0 := by
  unfold sumA
  rw [List.drop_of_length_le (by rw [cs_len]; omega)]; rfl
end Shp

/-! ### how many ones a number has -/
def m0 : Nat := 6148914691236517205
def m1 : Nat := 3689348814741910323
def m2 : Nat := 1085102592571150095
def q64 : Nat := 18446744073709551616
def on1 (p : Nat) : Nat := (((p >>> 1) &&& m0) + (p &&& m0)) % q64
def on2 (y : Nat) : Nat := (((y >>> 2) &&& m1) + (y &&& m1)) % q64
def on3 (y : Nat) : Nat := (((y >>> 4) + y) % q64) &&& m2
def on4 (k y : Nat) : Nat := ((y >>> k) + y) % q64
def onesR (p : Nat) : Nat := on4 32 (on4 16 (on4 8 (on3 (on2 (on1 p)))))
def ones (p : Nat) : Nat := onesR p &&& 127
theorem onesR_small : (List.range 4097).all (fun p => decide (onesR p < 9223372036854775808)) = true := by decide +kernel
theorem onesR_lt {p : Nat} (h2 : p ≤ 4096) : onesR p < 9223372036854775808 := by
  have := List.all_eq_true.1 onesR_small p (List.mem_range.2 (by omega))
  exact of_decide_eq_true this
theorem ones_pows : (List.range 4097).all (fun p => decide (p < 64) || (ones p == 1) == decide (p ∈ pows)) = true := by decide +kernel
theorem ones_iff {p : Nat} (h1 : 64 ≤ p) (h2 : p ≤ 4096) : (ones p == 1) = decide (p ∈ pows) := by
  have := List.all_eq_true.1 ones_pows p (List.mem_range.2 (by omega))
  simp only [Bool.or_eq_true, decide_eq_true_eq] at this
  rcases this with h | h
  · omega
  · simpa using h
theorem shr_n {a k : Nat} (hk : k ≤ 64) : shrI .u64 (a : Int) (k : Int) = ((a >>> k : Nat) : Int) := by
  rw [shrI_lit _ _ _ (by simpa [IntKind.bits] using hk), Int.toNat_natCast, Nat.shiftRight_eq_div_pow]
  simp
theorem add_n (a b : Nat) : IntKind.wrap .u64 ((a : Int) + (b : Int)) = (((a + b) % q64 : Nat) : Int) := by
  rw [wrap_u64_mod]
  simp [q64]
theorem lt_q {a b : Nat} (h : a < q64) : a &&& b < q64 := Nat.lt_of_le_of_lt Nat.and_le_left h
theorem shr_lt {a k : Nat} (h : a < q64) : a >>> k < q64 := by
  rw [Nat.shiftRight_eq_div_pow]
  exact Nat.lt_of_le_of_lt (Nat.div_le_self _ _) h
theorem mod_lt (a : Nat) : a % q64 < q64 := Nat.mod_lt _ (by decide)
theorem and_n {a b : Nat} (ha : a < q64) (hb : b < q64) : andI .u64 (a : Int) (b : Int) = ((a &&& b : Nat) : Int) := and_u64 ha hb
theorem on1_i {p : Nat} (h : p < q64) : IntKind.wrap .u64 ((andI .u64 (shrI .u64 (p : Int) 1) 6148914691236517205) + (andI .u64 (p : Int) 6148914691236517205)) = (on1 p : Int) := by
  have e := shr_n (a := p) (k := 1) (by omega)
  rw [show ((1 : Nat) : Int) = 1 from rfl] at e
  rw [e, show (6148914691236517205 : Int) = (m0 : Nat) from rfl, and_n (shr_lt h) (by decide), and_n h (by decide), add_n]; rfl
theorem on2_i {p : Nat} (h : p < q64) : IntKind.wrap .u64 ((andI .u64 (shrI .u64 (p : Int) 2) 3689348814741910323) + (andI .u64 (p : Int) 3689348814741910323)) = (on2 p : Int) := by
  have e := shr_n (a := p) (k := 2) (by omega)
  rw [show ((2 : Nat) : Int) = 2 from rfl] at e
  rw [e, show (3689348814741910323 : Int) = (m1 : Nat) from rfl, and_n (shr_lt h) (by decide), and_n h (by decide), add_n]; rfl
theorem on3_i {p : Nat} (h : p < q64) : andI .u64 (IntKind.wrap .u64 ((shrI .u64 (p : Int) 4) + (p : Int))) 1085102592571150095 = (on3 p : Int) := by
  have e := shr_n (a := p) (k := 4) (by omega)
  rw [show ((4 : Nat) : Int) = 4 from rfl] at e
  rw [e, add_n, show (1085102592571150095 : Int) = (m2 : Nat) from rfl, and_n (mod_lt _) (by decide)]; rfl
theorem on4_i {p : Nat} (k : Nat) (hk : k ≤ 64) (h : p < q64) : IntKind.wrap .u64 ((p : Int) + (shrI .u64 (p : Int) (k : Int))) = (on4 k p : Int) := by
  rw [shr_n hk, add_n, Nat.add_comm]; rfl
theorem on5_i {p : Nat} (h : p < 9223372036854775808) : andI .i64 (IntKind.wrap .i64 (p : Int)) 127 = ((p &&& 127 : Nat) : Int) := by
  rw [wrap_i64 (by omega) (by omega), show (127 : Int) = ((127 : Nat) : Int) from rfl, andI_nat _ (Nat.lt_of_lt_of_le h (by rw [pow_i64]; decide)) (by rw [pow_i64]; decide)]
  have := Nat.and_le_right (n := p) (m := 127)
  exact wrap_i64 (by omega) (by omega)
end Go.S
