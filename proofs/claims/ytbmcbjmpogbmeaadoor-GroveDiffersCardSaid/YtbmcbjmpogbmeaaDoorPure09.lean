/- Layer 9 (grove): digests with a salt, and trees, as plain data. -/
import Derived.Test.YtbmcbjmpogbmeaaDoorSum02
import Derived.Test.YtbmcbjmpogbmeaaDoorSum03
import Derived.Test.YtbmcbjmpogbmeaaDoorPure08
set_option linter.unusedSimpArgs false
set_option linter.unusedVariables false
namespace Go.S
open Go Go.Eng

/-- A digest. -/
def dg (a : Int) (salt x : List UInt8) : List UInt8 := if a = 2 then L.sh3.sum (salt ++ x) else sh2.sum (salt ++ x)
theorem dsz_ne {a : Int} (h : dsz a ≠ 0) : (a = 1 ∧ dsz a = 32) ∨ (a = 2 ∧ dsz a = 64) := by
  unfold dsz at *
  by_cases h1 : a = 1
  · exact .inl ⟨h1, by simp [h1]⟩
  · by_cases h2 : a = 2
    · exact .inr ⟨h2, by simp [h2]⟩
    · simp [h1, h2] at h
theorem dg_len {a : Int} (h : dsz a ≠ 0) (salt x : List UInt8) : (dg a salt x).length = (dsz a).toNat := by
  rcases dsz_ne h with ⟨rfl, h⟩ | ⟨rfl, h⟩
  · rw [h]; exact sum2_len _
  · rw [h]; exact L.sum2_len _
/-- Bytes, filled up with noughts. -/
def fit (B : Nat) (xs : List UInt8) : List UInt8 := xs ++ List.replicate (B - xs.length) 0
theorem fit_len {B : Nat} {xs : List UInt8} (h : xs.length ≤ B) : (fit B xs).length = B := by simp [fit]; omega
theorem fit_full {B : Nat} {xs : List UInt8} (h : B ≤ xs.length) : fit B xs = xs := by simp [fit, show B - xs.length = 0 by omega]
/-- Bytes, filled up to whole blocks. -/
def fills (B : Nat) (xs : List UInt8) : List UInt8 := fit (up xs.length B * B) xs
theorem up_zero {B : Nat} (hB : 1 ≤ B) : up 0 B = 0 := by unfold up; exact Nat.div_eq_of_lt (by omega)
theorem up_ge {n B : Nat} (hB : 1 ≤ B) : n ≤ up n B * B := by
  rcases Nat.eq_zero_or_pos n with h | h
  · omega
  · have := (not_congr (up_iff (k := up n B) hB h)).1 (by omega); omega
theorem up_lt_add {n B : Nat} (hB : 1 ≤ B) : up n B * B < n + B := by
  have := Nat.div_mul_le_self (n + B - 1) B
  unfold up; omega
theorem up_small {n B : Nat} (h1 : 1 ≤ n) (h : n ≤ B) : up n B = 1 := by
  have h0 : 1 ≤ up n B := up_pos h1 (by omega)
  have h2 : ¬ 1 < up n B := by rw [up_iff (by omega) h1]; omega
  omega
theorem up_more {n B : Nat} (hB : 1 ≤ B) : up (n + B) B = up n B + 1 := by
  unfold up
  rw [show n + B + B - 1 = (n + B - 1) + B by omega, Nat.add_div_right _ (by omega)]
theorem eq_of_lt {a b : Nat} (h : ∀ k, k < a ↔ k < b) : a = b := by
  have h1 := h a
  have h2 := h b
  omega
theorem up_mul {m n D : Nat} (hm : 1 ≤ m) (hn : 1 ≤ n) (hD : 1 ≤ D) : up (m * D) (n * D) = up m n := by
  refine eq_of_lt fun k => ?_
  rw [up_iff (Nat.mul_pos (by omega) (by omega)) (Nat.mul_pos (by omega) (by omega)), up_iff hn hm, ← Nat.mul_assoc]
  exact Nat.mul_lt_mul_right (by omega)
/-- Bytes, filled up, are their blocks, each filled up. -/
theorem chunks {B : Nat} (hB : 1 ≤ B) : ∀ (n : Nat) (xs : List UInt8), xs.length ≤ n → fills B xs = (List.range (up xs.length B)).flatMap fun i => fit B ((xs.drop (i * B)).take B)
  | 0, xs, h => by
    obtain rfl := List.length_eq_zero_iff.1 (Nat.le_zero.1 h)
    simp [fills, fit, up_zero hB]
  | n + 1, xs, h => by
    rcases Nat.eq_zero_or_pos xs.length with h0 | h0
    · obtain rfl := List.length_eq_zero_iff.1 h0
      simp [fills, fit, up_zero hB]
    rcases Nat.lt_or_ge B xs.length with hl | hl
    · have hd : (xs.drop B).length = xs.length - B := List.length_drop
      have ih := chunks hB n (xs.drop B) (by omega)
      have hu : up xs.length B = up (xs.drop B).length B + 1 := by rw [← up_more hB, hd]; congr 1; omega
      have hcat : fills B xs = xs.take B ++ fills B (xs.drop B) := by
        unfold fills fit
        rw [hu, ← List.append_assoc, List.take_append_drop, hd, Nat.succ_mul]
        congr 2; omega
      rw [hcat, ih, hu, List.range_succ_eq_map, List.flatMap_cons, List.flatMap_map]
      congr 1
      · rw [Nat.zero_mul, List.drop_zero, fit_full (by rw [List.length_take]; omega)]
      · congr 1; funext i
        rw [List.drop_drop, Nat.succ_mul, Nat.add_comm B]
    · rw [up_small h0 hl]
      simp [fills, up_small h0 hl, List.take_of_length_le hl]
/-! ### rows of pieces of one length -/
theorem flat_len {f : Nat → List UInt8} {D : Nat} (hf : ∀ k, (f k).length = D) : ∀ m, ((List.range m).flatMap f).length = m * D
  | 0 => by simp
  | m + 1 => by rw [List.range_succ, List.flatMap_append, List.length_append, flat_len hf m, Nat.succ_mul]; simp [hf]
theorem flat_drop {f : Nat → List UInt8} {D : Nat} (hf : ∀ k, (f k).length = D) (m j : Nat) : ((List.range m).flatMap f).drop (j * D) = (List.range (m - j)).flatMap fun k => f (j + k) := by
  rcases Nat.le_total j m with h | h
  · obtain ⟨r, rfl⟩ : ∃ r, m = j + r := ⟨m - j, by omega⟩
    rw [List.range_add, List.flatMap_append, List.drop_append_of_le_length (by rw [flat_len hf]; exact Nat.le_refl _), List.drop_of_length_le (by rw [flat_len hf]; exact Nat.le_refl _), List.nil_append, List.flatMap_map, Nat.add_sub_cancel_left]
  · rw [List.drop_of_length_le (by rw [flat_len hf]; exact Nat.mul_le_mul_right _ h), show m - j = 0 by omega]; rfl
theorem flat_take {f : Nat → List UInt8} {D : Nat} (hf : ∀ k, (f k).length = D) (m j : Nat) : ((List.range m).flatMap f).take (j * D) = (List.range (min j m)).flatMap f := by
  rcases Nat.le_total j m with h | h
  · obtain ⟨r, rfl⟩ : ∃ r, m = j + r := ⟨m - j, by omega⟩
    rw [List.range_add, List.flatMap_append, List.take_append_of_le_length (by rw [flat_len hf]; exact Nat.le_refl _), List.take_of_length_le (by rw [flat_len hf]; exact Nat.le_refl _), Nat.min_eq_left (by omega)]
  · rw [List.take_of_length_le (by rw [flat_len hf]; exact Nat.mul_le_mul_right _ h), Nat.min_eq_right h]
theorem flat_one {f : Nat → List UInt8} {D : Nat} (hf : ∀ k, (f k).length = D) {m i : Nat} (hi : i < m) : (((List.range m).flatMap f).drop (i * D)).take D = f i := by
  rw [flat_drop hf, show D = 1 * D by omega, flat_take (fun k => hf (i + k)), show min 1 (m - i) = 1 by omega]
  simp
namespace Shp
/-- A tree's blocks, over data. -/
def blk (x : Shp) (H : List UInt8 → List UInt8) (data : List UInt8) : Nat → Nat → List UInt8
  | 0, i => fit x.bN ((data.drop (i * x.bN)).take x.bN)
  | l + 1, i => fit x.bN ((List.range (min x.aN (x.c l - i * x.aN))).flatMap fun k => H (x.blk H data l (i * x.aN + k)))
def lev (x : Shp) (H : List UInt8 → List UInt8) (data : List UInt8) (l : Nat) : List UInt8 := (List.range (x.c l)).flatMap (x.blk H data l)
/-- The levels from one on down to the first above the data. -/
def tr (x : Shp) (H : List UInt8 → List UInt8) (data : List UInt8) : Nat → List UInt8
  | 0 => []
  | l + 1 => x.lev H data (l + 1) ++ x.tr H data l
def tree (x : Shp) (H : List UInt8 → List UInt8) (data : List UInt8) : List UInt8 := x.tr H data x.h
def root (x : Shp) (H : List UInt8 → List UInt8) (data : List UInt8) : List UInt8 := H (x.blk H data x.h 0)
variable {x : Shp} {H : List UInt8 → List UInt8} {data : List UInt8}
theorem blk_len (o : x.Ok) (hH : ∀ y, (H y).length = x.dN) : ∀ l i, (x.blk H data l i).length = x.bN
  | 0, i => fit_len (by rw [List.length_take]; omega)
  | l + 1, i => fit_len (by rw [flat_len (f := fun k => H (x.blk H data l (i * x.aN + k))) (fun k => hH _), o.ba]; exact Nat.mul_le_mul_right _ (Nat.min_le_left _ _))
theorem lev_len (o : x.Ok) (hH : ∀ y, (H y).length = x.dN) (l : Nat) : (x.lev H data l).length = x.c l * x.bN := flat_len (blk_len o hH l) _
theorem lev_zero (o : x.Ok) (hd : data.length = x.sN) : x.lev H data 0 = fills x.bN data := by
  rw [chunks (by have := o.b1; omega) data.length data (Nat.le_refl _), hd]; rfl
/-- The digests of a level's blocks. -/
def digs (x : Shp) (H : List UInt8 → List UInt8) (data : List UInt8) (l i : Nat) : List UInt8 := (List.range i).flatMap fun i => H (x.blk H data l i)
theorem digs_succ (l i : Nat) : x.digs H data l (i + 1) = x.digs H data l i ++ H (x.blk H data l i) := by
  unfold digs; rw [List.range_succ, List.flatMap_append]; simp
theorem digs_len (hH : ∀ y, (H y).length = x.dN) (l i : Nat) : (x.digs H data l i).length = i * x.dN := flat_len (fun k => hH _) _
theorem lev_succ (o : x.Ok) (hH : ∀ y, (H y).length = x.dN) (l : Nat) : x.lev H data (l + 1) = fills x.bN (x.digs H data l (x.c l)) := by
  have hb := o.b1
  have hD : 1 ≤ x.dN := by rcases o.dd with h | h <;> omega
  have hf : ∀ k, ((fun i => H (x.blk H data l i)) k).length = x.dN := fun k => hH _
  rw [chunks (by omega) _ _ (Nat.le_refl _), digs_len hH]
  unfold lev
  rw [show up (x.c l * x.dN) x.bN = x.c (l + 1) by rw [o.ba]; exact up_mul (c_pos o l) (by have := o.a1; omega) hD]
  congr 1; funext i
  show fit x.bN _ = _
  congr 1
  unfold digs
  rw [show i * x.bN = (i * x.aN) * x.dN by rw [o.ba, Nat.mul_assoc], flat_drop hf]
  conv => rhs; rw [o.ba]
  rw [flat_take (fun k => hf _)]
theorem lev_cut (o : x.Ok) (hH : ∀ y, (H y).length = x.dN) {l i : Nat} (hi : i < x.c l) : ((x.lev H data l).drop (i * x.bN)).take x.bN = x.blk H data l i := flat_one (blk_len o hH l) hi
theorem lev_top (o : x.Ok) : x.lev H data x.h = x.blk H data x.h 0 := by unfold lev; rw [h_top o]; simp
theorem tr_len (o : x.Ok) (hH : ∀ y, (H y).length = x.dN) : ∀ l, (x.tr H data l).length ≤ l * (x.c 0 * x.bN)
  | 0 => by simp [tr]
  | l + 1 => by
    rw [tr, List.length_append, lev_len o hH, Nat.succ_mul]
    have h1 := tr_len o hH l
    have h2 := Nat.mul_le_mul_right x.bN (c_anti o (j := 0) (k := l + 1) (by omega))
    omega
theorem c0_le (o : x.Ok) : x.c 0 * x.bN < x.sN + x.bN := up_lt_add (by have := o.b1; omega)
end Shp
theorem pad_fills {xs : List UInt8} {B : Nat} (h1 : 1 ≤ B) (h2 : B ≤ 65536) (hl : xs.length ≤ 68719400000) : pad xs (B : Int) = (fills B xs, 0) := by
  have ha : align (xs.length : Int) (B : Int) = (((up xs.length B * B : Nat) : Int), 0) := by
    unfold align
    have e : ((xs.length : Int) + (B : Int) - 1) / (B : Int) * (B : Int) = ((up xs.length B * B : Nat) : Int) := by
      unfold up
      rw [show (xs.length : Int) + (B : Int) - 1 = ((xs.length + B - 1 : Nat) : Int) by omega]
      rfl
    have := up_lt_add (n := xs.length) h1
    rw [if_neg (by omega), if_neg (by omega), e, if_pos (by omega)]
  unfold pad
  rw [ha, if_neg (fun h => h rfl)]
  dsimp only
  rw [Int.toNat_natCast]; rfl
end Go.S
