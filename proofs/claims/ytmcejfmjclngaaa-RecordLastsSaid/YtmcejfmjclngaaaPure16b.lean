/- Layer 16 (record): a record's bytes, and what is read of bytes, as plain functions. -/
import Derived.Test.YtmcejfmjclngaaaPure16
import Derived.Test.YtmcejfmjclngaaaPure01b
import Derived.Test.YtmcejfmjclngaaaLib4
set_option linter.unusedSimpArgs false
set_option linter.unusedVariables false
namespace Go.S
open Go Go.Eng

/-- A half: its Priority, its Tries, Good. -/
structure Half where
  p : Int
  t : Int
  g : Bool
def Half.zero : Half := ⟨0, 0, false⟩
def Half.right (h : Half) : Bool := decide (h.p ≥ 0) && decide (h.p ≤ 15) && decide (h.t ≥ 0) && decide (h.t ≤ 7) && !(h.g && decide (h.t > 0))
theorem right_iff {h : Half} : h.right = true ↔ 0 ≤ h.p ∧ h.p ≤ 15 ∧ 0 ≤ h.t ∧ h.t ≤ 7 ∧ (h.g = true → h.t = 0) := by
  unfold Half.right
  simp only [Bool.and_eq_true, decide_eq_true_eq, Bool.not_eq_true', Bool.and_eq_false_imp, decide_eq_false_iff_not]
  constructor
  · rintro ⟨⟨⟨⟨h1, h2⟩, h3⟩, h4⟩, h5⟩; exact ⟨h1, h2, h3, h4, fun hg => by have := h5 hg; omega⟩
  · rintro ⟨h1, h2, h3, h4, h5⟩; exact ⟨⟨⟨⟨h1, h2⟩, h3⟩, h4⟩, fun hg => by have := h5 hg; omega⟩
def hb (h : Half) : List UInt8 := [u8 h.p, u8 h.t, if h.g then 1 else 0, 0]
def rhead : List UInt8 := [0, 65, 66, 48, 1]
def pre (a b : Half) : List UInt8 := rhead ++ hb a ++ hb b ++ List.replicate 15 0
def recB (a b : Half) : List UInt8 := pre a b ++ be 4 (crc (pre a b))
theorem pre_len (a b : Half) : (pre a b).length = 28 := rfl
theorem recB_len (a b : Half) : (recB a b).length = 32 := by simp [recB, pre_len, be_length]
def halfAt (bs : List UInt8) (i : Nat) : Half := ⟨((bs.getD i 0).toNat : Int), ((bs.getD (i + 1) 0).toNat : Int), bs.getD (i + 2) 0 == 1⟩
def rightAt (bs : List UInt8) : Bool := (halfAt bs 5).right && (halfAt bs 9).right
def parseErr (bs : List UInt8) : Int :=
  if bs.length ≠ 32 then 10 else if bs.take 4 ≠ [0, 65, 66, 48] then 30 else if bs.getD 4 0 ≠ 1 then 31 else if beN (bs.drop 28) ≠ crc (bs.take 28) then 55
  else if rightAt bs = false ∨ recB (halfAt bs 5) (halfAt bs 9) ≠ bs then 12 else 0
def parse (bs : List UInt8) : Half × Half := if parseErr bs = 0 then (halfAt bs 5, halfAt bs 9) else (.zero, .zero)
theorem parseErr_zero {bs : List UInt8} : parseErr bs = 0 ↔ bs.length = 32 ∧ bs.take 4 = [0, 65, 66, 48] ∧ bs.getD 4 0 = 1 ∧ beN (bs.drop 28) = crc (bs.take 28) ∧ rightAt bs = true ∧ recB (halfAt bs 5) (halfAt bs 9) = bs := by
  unfold parseErr
  constructor
  · intro h
    by_cases h1 : bs.length = 32
    · by_cases h2 : bs.take 4 = [0, 65, 66, 48]
      · by_cases h3 : bs.getD 4 0 = 1
        · by_cases h4 : beN (bs.drop 28) = crc (bs.take 28)
          · by_cases h5 : rightAt bs = false ∨ recB (halfAt bs 5) (halfAt bs 9) ≠ bs
            · rw [if_neg (Classical.not_not.2 h1), if_neg (Classical.not_not.2 h2), if_neg (Classical.not_not.2 h3), if_neg (Classical.not_not.2 h4), if_pos h5] at h; cases h
            · rw [not_or] at h5; exact ⟨h1, h2, h3, h4, by simpa using h5.1, by simpa using h5.2⟩
          · rw [if_neg (Classical.not_not.2 h1), if_neg (Classical.not_not.2 h2), if_neg (Classical.not_not.2 h3), if_pos h4] at h; cases h
        · rw [if_neg (Classical.not_not.2 h1), if_neg (Classical.not_not.2 h2), if_pos h3] at h; cases h
      · rw [if_neg (Classical.not_not.2 h1), if_pos h2] at h; cases h
    · rw [if_pos h1] at h; cases h
  · rintro ⟨h1, h2, h3, h4, h5, h6⟩
    rw [if_neg (Classical.not_not.2 h1), if_neg (Classical.not_not.2 h2), if_neg (Classical.not_not.2 h3), if_neg (Classical.not_not.2 h4), if_neg (by rw [not_or]; exact ⟨by simp [h5], Classical.not_not.2 h6⟩)]
theorem halfAt_of {bs : List UInt8} {i : Nat} {h : Half} (hr : h.right = true) (h0 : bs.getD i 0 = u8 h.p) (h1 : bs.getD (i + 1) 0 = u8 h.t) (h2 : bs.getD (i + 2) 0 = if h.g then 1 else 0) : halfAt bs i = h := by
  obtain ⟨a, b, c, d, _⟩ := right_iff.1 hr
  unfold halfAt
  rw [h0, h1, h2, u8_toNat a (by omega), u8_toNat c (by omega)]
  cases h with
  | mk p t g => cases g <;> rfl
theorem halves (a b : Half) (t : List UInt8) (ha : a.right = true) (hb : b.right = true) : halfAt (pre a b ++ t) 5 = a ∧ halfAt (pre a b ++ t) 9 = b :=
  ⟨halfAt_of ha rfl rfl rfl, halfAt_of hb rfl rfl rfl⟩
theorem drop_pre (a b : Half) (t : List UInt8) : (pre a b ++ t).drop 28 = t := by
  have := List.drop_left (l₁ := pre a b) (l₂ := t); rwa [pre_len] at this
theorem take_pre (a b : Half) (t : List UInt8) : (pre a b ++ t).take 28 = pre a b := by
  have := List.take_left (l₁ := pre a b) (l₂ := t); rwa [pre_len] at this
theorem round {a b : Half} (ha : a.right = true) (hb : b.right = true) : parseErr (recB a b) = 0 ∧ parse (recB a b) = (a, b) := by
  have hh := halves a b (be 4 (crc (pre a b))) ha hb
  have hz : parseErr (recB a b) = 0 := by
    refine parseErr_zero.2 ⟨recB_len a b, rfl, rfl, ?_, ?_, ?_⟩
    · unfold recB; rw [drop_pre, take_pre, beN_be _ _ (by have := crc_lt (pre a b); omega)]
    · unfold rightAt recB; rw [hh.1, hh.2, ha, hb]; rfl
    · show recB (halfAt (recB a b) 5) (halfAt (recB a b) 9) = recB a b
      unfold recB at hh ⊢; rw [hh.1, hh.2]
  refine ⟨hz, ?_⟩
  unfold parse
  rw [if_pos hz]
  unfold recB at hh ⊢
  rw [hh.1, hh.2]
theorem recB_inj {a b a' b' : Half} (ha : a.right = true) (hb : b.right = true) (ha' : a'.right = true) (hb' : b'.right = true) : recB a b = recB a' b' ↔ a = a' ∧ b = b' := by
  constructor
  · intro h
    have h1 := (round ha hb).2
    have h2 := (round ha' hb').2
    rw [h, h2] at h1
    exact ⟨(congrArg Prod.fst h1).symm, (congrArg Prod.snd h1).symm⟩
  · rintro ⟨rfl, rfl⟩; rfl
/-- A bit turned: none. -/
theorem turned {a b : Half} (i : Nat) (hi : i < 32) (x : UInt8) (hx : x ≠ (recB a b)[i]'(by rw [recB_len]; exact hi)) : parseErr ((recB a b).set i x) ≠ 0 := by
  intro h
  obtain ⟨_, h4, h5, h6, _, _⟩ := parseErr_zero.1 h
  have hl := recB_len a b
  have hget : ((recB a b).set i x)[i]? = some x := by simp [hl, hi]
  have hold : (recB a b)[i]? = some ((recB a b)[i]'(by omega)) := List.getElem?_eq_getElem (by omega)
  by_cases c1 : i < 4
  · have e1 : (((recB a b).set i x).take 4)[i]? = some x := by rw [List.getElem?_take, if_pos c1]; exact hget
    have e2 : ((recB a b).take 4)[i]? = some ((recB a b)[i]'(by omega)) := by rw [List.getElem?_take, if_pos c1]; exact hold
    rw [h4] at e1
    have e3 : (recB a b).take 4 = [0, 65, 66, 48] := rfl
    rw [e3] at e2
    rw [e1] at e2
    exact hx (Option.some.inj e2)
  · by_cases c2 : i = 4
    · subst c2
      have e1 : ((recB a b).set 4 x).getD 4 0 = x := by rw [List.getD_eq_getElem?_getD, hget]; rfl
      have e2 : (recB a b).getD 4 0 = 1 := rfl
      rw [List.getD_eq_getElem?_getD, hold] at e2
      rw [h5] at e1
      exact hx (e1.symm.trans e2.symm)
    · have hp : (pre a b).length = 28 := pre_len a b
      by_cases c3 : i < 28
      · have e1 : (recB a b).set i x = (pre a b).set i x ++ be 4 (crc (pre a b)) := by unfold recB; rw [List.set_append_left _ _ (by omega)]
        have hl2 : ((pre a b).set i x).length = 28 := by simp [hp]
        have d1 : ((pre a b).set i x ++ be 4 (crc (pre a b))).drop 28 = be 4 (crc (pre a b)) := by
          have := List.drop_left (l₁ := (pre a b).set i x) (l₂ := be 4 (crc (pre a b))); rwa [hl2] at this
        have t1 : ((pre a b).set i x ++ be 4 (crc (pre a b))).take 28 = (pre a b).set i x := by
          have := List.take_left (l₁ := (pre a b).set i x) (l₂ := be 4 (crc (pre a b))); rwa [hl2] at this
        rw [e1, d1, t1, beN_be _ _ (by have := crc_lt (pre a b); omega)] at h6
        have := crc_set (pre a b) i (by omega) x h6.symm
        refine hx (this.trans ?_)
        simp [recB, List.getElem_append_left, hp, c3]
      · have e1 : (recB a b).set i x = pre a b ++ (be 4 (crc (pre a b))).set (i - 28) x := by
          unfold recB; rw [List.set_append_right _ _ (by omega), hp]
        rw [e1, drop_pre, take_pre] at h6
        have hbl := be_length 4 (crc (pre a b))
        have h7 : beN ((be 4 (crc (pre a b))).set (i - 28) x) = beN (be 4 (crc (pre a b))) := by rw [h6, beN_be _ _ (by have := crc_lt (pre a b); omega)]
        have h8 := (beN_inj (by simp)).2 h7
        have e2 : ((be 4 (crc (pre a b))).set (i - 28) x)[i - 28]? = some x := by rw [List.getElem?_set_self (by omega)]
        rw [h8] at e2
        refine hx ?_
        have e3 : (recB a b)[i]? = some x := by unfold recB; rw [List.getElem?_append_right (by omega), hp]; exact e2
        rw [hold] at e3
        exact (Option.some.inj e3).symm
theorem be_cons : ∀ (k n : Nat), be (k + 1) n = UInt8.ofNat (n / 256 ^ k) :: be k n
  | 0, n => by simp [be]
  | k + 1, n => by
    rw [be, be_cons k (n / 256), be, Nat.div_div_eq_div_mul, Nat.pow_succ, Nat.mul_comm]; rfl
end Go.S
