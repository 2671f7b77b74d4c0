/- Layer 9 (grove): two ways to one root. -/
import Derived.Test.YtbmcbjmpogbmeaaDoorPure09b
import Derived.Test.YtbmcbjmpogbmeaaDoorGrv09e
set_option linter.unusedSimpArgs false
set_option linter.unusedVariables false
namespace Go.S
open Go Go.Eng
theorem difR_some : ∀ {xs ys : List (List UInt8)} {p q : List UInt8}, difR xs ys = some (p, q) → p ≠ q ∧ ∃ k, xs[k]? = some p ∧ ys[k]? = some q ∧ ∀ j : Nat, j < k → xs[j]? = ys[j]?
  | [], _, p, q, h => by simp [difR] at h
  | _ :: _, [], p, q, h => by simp [difR] at h
  | x :: xs, y :: ys, p, q, h => by
    rw [difR] at h
    split at h
    · rename_i he
      obtain ⟨h1, k, h2, h3, h4⟩ := difR_some h
      refine ⟨h1, k + 1, by simpa using h2, by simpa using h3, fun j hj => ?_⟩
      cases j with
      | zero => simp [he]
      | succ j => simpa using h4 j (by omega)
    · rename_i he
      simp only [Option.some.injEq, Prod.mk.injEq] at h
      obtain ⟨rfl, rfl⟩ := h
      exact ⟨he, 0, rfl, rfl, fun j hj => by omega⟩
theorem difR_none : ∀ {xs ys : List (List UInt8)}, xs.length = ys.length → difR xs ys = none → xs = ys
  | [], [], _, _ => rfl
  | [], _ :: _, h, _ => by simp at h
  | _ :: _, [], h, _ => by simp at h
  | x :: xs, y :: ys, h, hd => by
    rw [difR] at hd
    split at hd
    · rename_i he
      rw [he, difR_none (by simpa using h) hd]
    · cases hd
/-- Where two ways to one digest part, from the end on, there are two unlike texts with one digest. -/
theorem dif_way {A B : List (List UInt8)} {H : List UInt8 → List UInt8} {off : Nat → Nat} {D : Nat} (hl : A.length = B.length) (hA : ∀ k a b, A[k]? = some a → A[k + 1]? = some b → (b.drop (off k)).take D = H a)
    (hB : ∀ k a b, B[k]? = some a → B[k + 1]? = some b → (b.drop (off k)).take D = H a) (ht : ∀ a b, A[A.length - 1]? = some a → B[A.length - 1]? = some b → H a = H b) {p q : List UInt8} (h : difR A.reverse B.reverse = some (p, q)) : p ≠ q ∧ H p = H q ∧ p ∈ A ∧ q ∈ B := by
  obtain ⟨h1, k, h2, h3, h4⟩ := difR_some h
  have hk : k < A.length := by have := (List.getElem?_eq_some_iff.1 h2).1; simpa using this
  rw [List.getElem?_reverse hk] at h2
  rw [List.getElem?_reverse (by omega), ← hl] at h3
  refine ⟨h1, ?_, List.mem_of_getElem? h2, List.mem_of_getElem? h3⟩
  cases k with
  | zero => exact ht p q h2 h3
  | succ k =>
    have h5 := h4 k (by omega)
    rw [List.getElem?_reverse (by omega), List.getElem?_reverse (by omega), ← hl] at h5
    rw [show A.length - 1 - (k + 1) = A.length - 1 - k - 1 by omega] at h2 h3
    obtain ⟨m, hm⟩ : ∃ m, A.length - 1 - k = m + 1 := ⟨A.length - 1 - k - 1, by omega⟩
    rw [hm] at h2 h3 h5
    rw [Nat.add_sub_cancel] at h2 h3
    have hlt : m + 1 < A.length := by omega
    have ha := List.getElem?_eq_getElem hlt
    rw [← hA m p _ h2 ha, ← hB m q _ h3 (by rw [← h5]; exact ha)]
theorem fit_get {B j : Nat} {xs : List UInt8} (h : j < xs.length) : (fit B xs)[j]? = xs[j]? := by unfold fit; rw [List.getElem?_append_left h]
namespace Shp
variable {x : Shp} {H : List UInt8 → List UInt8} {data : List UInt8}
/-- A byte of the data, in its block. -/
theorem blk_byte (o : x.Ok) {n : Nat} (hn : n < data.length) : (x.blk H data 0 (n / x.bN))[n % x.bN]? = data[n]? := by
  have hb := o.b1
  have hm := Nat.mod_lt n (show x.bN > 0 by omega)
  have e := Nat.div_add_mod n x.bN
  rw [Nat.mul_comm] at e
  show (fit _ _)[_]? = _
  rw [fit_get (by rw [List.length_take, List.length_drop]; omega), List.getElem?_take, if_pos hm, List.getElem?_drop, e]
theorem onPath_way (o : x.Ok) (hH : ∀ y, (H y).length = x.dN) {i : Nat} (hi : i < x.c 0) (k : Nat) (a b : List UInt8) (ha : (x.onPath H data i)[k]? = some a) (hb : (x.onPath H data i)[k + 1]? = some b) : (b.drop (Go.Proofs.YtbmcbjmpogbmeaaDoor.offAt x i k)).take x.dN = H a := by
  have hk : k + 1 < x.h + 1 := by have := (List.getElem?_eq_some_iff.1 hb).1; rwa [onPath_len] at this
  rw [onPath_get (by omega)] at ha hb
  cases ha; cases hb
  rw [Go.Proofs.YtbmcbjmpogbmeaaDoor.div_pow_succ]
  exact blk_dig o hH (Go.Proofs.YtbmcbjmpogbmeaaDoor.path_in o hi k)
theorem onPath_top (o : x.Ok) {i : Nat} (hi : i < x.c 0) : (x.onPath H data i)[x.h]? = some (x.blk H data x.h 0) := by
  rw [onPath_get (Nat.le_refl _)]
  have := Go.Proofs.YtbmcbjmpogbmeaaDoor.path_in o hi x.h
  rw [h_top o] at this
  rw [Nat.lt_one_iff.1 this]
theorem onPath_mem (o : x.Ok) (hH : ∀ y, (H y).length = x.dN) {i : Nat} {p : List UInt8} (h : p ∈ x.onPath H data i) : p.length = x.bN := by
  obtain ⟨k, _, rfl⟩ := List.mem_map.1 h
  exact blk_len o hH _ _
end Shp
end Go.S
