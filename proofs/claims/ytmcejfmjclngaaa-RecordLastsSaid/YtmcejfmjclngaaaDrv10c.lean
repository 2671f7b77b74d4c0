/- Layer 10 (drive): Turn and Bad. -/
import Derived.Test.YtmcejfmjclngaaaDrv10b
set_option linter.unusedSimpArgs false
set_option linter.unusedVariables false
namespace Go.S
open Go Go.Eng
theorem xorAt_length (old xs : List UInt8) (off : Nat) : (xorAt old xs off).length = old.length := by simp [xorAt]
theorem xorAt_get {old xs : List UInt8} {off i : Nat} (h : i < old.length) : (xorAt old xs off)[i]? = some (if off ≤ i ∧ i < off + xs.length then old.getD i 0 ^^^ xs.getD (i - off) 0 else old.getD i 0) := by
  simp [xorAt, h]
theorem xorAt_nil (old : List UInt8) (off : Nat) : xorAt old [] off = old := by
  apply List.ext_getElem?
  intro i
  by_cases hi : i < old.length
  · rw [xorAt_get hi, if_neg (by simp only [List.length_nil]; omega)]; simp [hi]
  · rw [List.getElem?_eq_none (by rw [xorAt_length]; omega), List.getElem?_eq_none (by omega)]
theorem xorAt_step {old xs : List UInt8} {off k : Nat} (h : off + xs.length ≤ old.length) (hk : k < xs.length) : xorAt old (xs.take (k + 1)) off = (xorAt old (xs.take k) off).set (off + k) (old.getD (off + k) 0 ^^^ xs.getD k 0) := by
  apply List.ext_getElem?
  intro i
  by_cases hi : i < old.length
  · rw [xorAt_get hi, List.getElem?_set]
    by_cases h1 : off + k = i
    · subst h1
      rw [if_pos (show off ≤ off + k ∧ off + k < off + (xs.take (k + 1)).length by rw [List.length_take]; omega), if_pos rfl, if_pos (by rw [xorAt_length]; omega)]
      simp [show k < xs.length from hk, List.getElem?_take]
    · rw [if_neg h1, xorAt_get hi]
      congr 1
      by_cases h2 : off ≤ i ∧ i < off + (xs.take k).length
      · have h3 : off ≤ i ∧ i < off + (xs.take (k + 1)).length := by simp at h2 ⊢; omega
        rw [if_pos h2, if_pos h3]
        have h4 : i - off < k := by simp at h2; omega
        simp [List.getElem?_take, h4, show i - off < k + 1 by omega]
      · have h3 : ¬ (off ≤ i ∧ i < off + (xs.take (k + 1)).length) := by simp at h2 ⊢; omega
        rw [if_neg h2, if_neg h3]
  · rw [List.getElem?_eq_none (by rw [xorAt_length]; omega), List.getElem?_eq_none (by rw [List.length_set, xorAt_length]; omega)]
end Go.S
namespace Go.Proofs.Ytmcejfmjclngaaa
open Go Go.Eng
section
variable {w : World} {gd : Nat} {L : Lay} {D : S.Drv}
theorem AreaAt.setBad {w' : World} {a : AL} {A : S.Area} {f : Int → Bool} (h : AreaAt w a A) (hf : Fr (fun k => k = a.mb) w w') (m : MapAt w' kInt Value.bool a.mb (fun k => if f k then some true else none)) : AreaAt w' a (A.setBad f) :=
  ⟨h.var.fr hf h.ne.2.1, h.row.fr hf h.ne.2.2, m, h.ne, h.len⟩
end
end Go.Proofs.Ytmcejfmjclngaaa
