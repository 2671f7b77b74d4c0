/- Layer 9 (grove): what noughts behind the data do to a tree; blocks on a path. -/
import Derived.Test.YtbmcbjmpogbmeaaDoorPure09
set_option linter.unusedSimpArgs false
set_option linter.unusedVariables false
namespace Go.S
open Go Go.Eng
theorem fit_zeros {B k : Nat} {u : List UInt8} (h : u.length + k ≤ B) : fit B (u ++ List.replicate k 0) = fit B u := by
  unfold fit
  rw [List.append_assoc, List.replicate_append_replicate, List.length_append, List.length_replicate]
  congr 2; omega
theorem fit_take_zeros {B n m : Nat} {d : List UInt8} : fit B (((d ++ List.replicate m 0).drop n).take B) = fit B ((d.drop n).take B) := by
  rw [List.drop_append, List.drop_replicate, List.take_append, List.take_replicate]
  exact fit_zeros (by rw [List.length_take]; omega)
theorem up_pads {s m B : Nat} (hs : 1 ≤ s) (hB : 1 ≤ B) (hm : m ≤ (B - s % B) % B) : up (s + m) B = up s B := by
  refine eq_of_lt fun k => ?_
  rw [up_iff hB (by omega), up_iff hB hs]
  constructor
  · intro h
    apply Classical.byContradiction
    intro hn
    have e := Nat.div_add_mod s B
    have hr := Nat.mod_lt s (show B > 0 by omega)
    rcases Nat.eq_zero_or_pos (s % B) with h0 | h0
    · rw [h0, Nat.sub_zero, Nat.mod_self] at hm; omega
    · rw [Nat.mod_eq_of_lt (by omega)] at hm
      have hk : s / B < k := by
        apply Classical.byContradiction; intro hk
        have := Nat.mul_le_mul_right B (show k ≤ s / B by omega)
        rw [Nat.mul_comm (s / B)] at this; omega
      have := Nat.mul_le_mul_right B (show s / B + 1 ≤ k by omega)
      rw [Nat.succ_mul, Nat.mul_comm (s / B)] at this; omega
  · intro h; omega
namespace Shp
variable {s s' b d : Int} {H : List UInt8 → List UInt8} {data data' : List UInt8}
theorem c_same (h : (⟨s', b, d⟩ : Shp).c 0 = (⟨s, b, d⟩ : Shp).c 0) : ∀ k, (⟨s', b, d⟩ : Shp).c k = (⟨s, b, d⟩ : Shp).c k
  | 0 => h
  | k + 1 => by show up _ _ = up _ _; rw [c_same h k]; rfl
theorem h_same (h : (⟨s', b, d⟩ : Shp).c 0 = (⟨s, b, d⟩ : Shp).c 0) : (⟨s', b, d⟩ : Shp).h = (⟨s, b, d⟩ : Shp).h := by
  unfold Shp.h; congr 1; funext k; rw [c_same h k]
theorem blk_same (h : (⟨s', b, d⟩ : Shp).c 0 = (⟨s, b, d⟩ : Shp).c 0) (h0 : ∀ i, (⟨s', b, d⟩ : Shp).blk H data' 0 i = (⟨s, b, d⟩ : Shp).blk H data 0 i) : ∀ l i, (⟨s', b, d⟩ : Shp).blk H data' l i = (⟨s, b, d⟩ : Shp).blk H data l i
  | 0, i => h0 i
  | l + 1, i => by
    show fit _ _ = fit _ _
    rw [c_same h l]
    congr 1
    show List.flatMap _ (List.range (min (⟨s, b, d⟩ : Shp).aN _)) = _
    congr 1; funext k
    rw [blk_same h h0 l]; rfl
theorem lev_same (h : (⟨s', b, d⟩ : Shp).c 0 = (⟨s, b, d⟩ : Shp).c 0) (h0 : ∀ i, (⟨s', b, d⟩ : Shp).blk H data' 0 i = (⟨s, b, d⟩ : Shp).blk H data 0 i) (l : Nat) : (⟨s', b, d⟩ : Shp).lev H data' l = (⟨s, b, d⟩ : Shp).lev H data l := by
  unfold lev; rw [c_same h l]; congr 1; funext i; exact blk_same h h0 l i
theorem tr_same (h : (⟨s', b, d⟩ : Shp).c 0 = (⟨s, b, d⟩ : Shp).c 0) (h0 : ∀ i, (⟨s', b, d⟩ : Shp).blk H data' 0 i = (⟨s, b, d⟩ : Shp).blk H data 0 i) : ∀ l, (⟨s', b, d⟩ : Shp).tr H data' l = (⟨s, b, d⟩ : Shp).tr H data l
  | 0 => rfl
  | l + 1 => by rw [tr, tr, lev_same h h0, tr_same h h0 l]
variable {x : Shp}
/-- A block's digest stands in the block above. -/
theorem blk_dig (o : x.Ok) (hH : ∀ y, (H y).length = x.dN) {l i : Nat} (hi : i < x.c l) : ((x.blk H data (l + 1) (i / x.aN)).drop (i % x.aN * x.dN)).take x.dN = H (x.blk H data l i) := by
  have ha := o.a1
  have hm := Nat.mod_lt i (show x.aN > 0 by omega)
  have e := Nat.div_add_mod i x.aN
  rw [Nat.mul_comm] at e
  have hlt : i % x.aN < min x.aN (x.c l - i / x.aN * x.aN) := by omega
  have hf : ∀ k, ((fun k => H (x.blk H data l (i / x.aN * x.aN + k))) k).length = x.dN := fun k => hH _
  have hfl := flat_len hf (min x.aN (x.c l - i / x.aN * x.aN))
  have hle := Nat.mul_le_mul_right x.dN (show i % x.aN + 1 ≤ min x.aN (x.c l - i / x.aN * x.aN) by omega)
  rw [Nat.succ_mul] at hle
  show ((fit _ _).drop _).take _ = _
  unfold fit
  rw [List.drop_append_of_le_length (by omega), List.take_append_of_le_length (by rw [List.length_drop]; omega), flat_one hf hlt, e]
/-- The blocks on a path. -/
def onPath (x : Shp) (H : List UInt8 → List UInt8) (data : List UInt8) (i : Nat) : List (List UInt8) := (List.range (x.h + 1)).map fun k => x.blk H data k (i / x.aN ^ k)
theorem onPath_len (i : Nat) : (x.onPath H data i).length = x.h + 1 := by simp [onPath]
theorem onPath_get {i k : Nat} (hk : k ≤ x.h) : (x.onPath H data i)[k]? = some (x.blk H data k (i / x.aN ^ k)) := by
  unfold onPath; rw [List.getElem?_map, List.getElem?_range (by omega)]; rfl
end Shp
end Go.S
