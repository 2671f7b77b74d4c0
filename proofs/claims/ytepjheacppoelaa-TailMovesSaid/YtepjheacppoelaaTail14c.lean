/- Layer 14 (tail): Load and Store as plain data. -/
import Derived.Test.YtepjheacppoelaaTail14b
import Derived.Test.YtepjheacppoelaaOne10
set_option linter.unusedSimpArgs false
set_option linter.unusedVariables false
namespace Go.S
open Go Go.Eng
def tLoad2 (bs : List UInt8) (D : Drv) (n : List UInt8) (m : Int) : List UInt8 × Tl × Int × Drv :=
  if tErr bs ≠ 0 then ([], .zero, tErr bs, D) else if within (tAt bs).o (tAt bs).s m = false then ([], .zero, 13, D)
  else if (D.read n (tAt bs).o (tAt bs).s).2.1 ≠ 0 then ([], .zero, (D.read n (tAt bs).o (tAt bs).s).2.1, (D.read n (tAt bs).o (tAt bs).s).2.2)
  else ((D.read n (tAt bs).o (tAt bs).s).1, tAt bs, 0, (D.read n (tAt bs).o (tAt bs).s).2.2)
def tLoad (D : Drv) (n : List UInt8) : List UInt8 × Tl × Int × Drv :=
  if (D.size n).2 ≠ 0 ∧ D.down = false then ([], .zero, (D.size n).2, D)
  else if (D.read n ((D.size n).1 - 64) 64).2.1 ≠ 0 then ([], .zero, (D.read n ((D.size n).1 - 64) 64).2.1, (D.read n ((D.size n).1 - 64) 64).2.2)
  else tLoad2 (D.read n ((D.size n).1 - 64) 64).1 (D.read n ((D.size n).1 - 64) 64).2.2 n ((D.size n).1 - 64)
def tStore (D : Drv) (n : List UInt8) (data : Int) (raw : List UInt8) : Int × Drv :=
  if (D.size n).2 ≠ 0 then ((D.size n).2, D)
  else if data < 0 ∨ raw.length < 1 ∨ raw.length > 65536 then (12, D)
  else if (align data 64).2 ≠ 0 ∨ within (align data 64).1 raw.length ((D.size n).1 - 64) = false then (43, D)
  else if (D.write n (align data 64).1 raw).1 ≠ 0 then D.write n (align data 64).1 raw
  else (D.write n (align data 64).1 raw).2.write n ((D.size n).1 - 64) (tB ⟨data, (align data 64).1, raw.length⟩)
theorem read_le (D : Drv) (n : List UInt8) (off len : Int) : (D.read n off len).1.length ≤ len.toNat := by
  unfold Drv.read
  split
  · simp
  · dsimp only
    split
    · simp
    · simp; omega
/-- A drive's partition, as it lies there. -/
structure Fit (D : Drv) (n : List UInt8) (i : Nat) (A : Area) : Prop where
  at_ : D.at? n = some i
  ar : D.ar i = A
  dn : D.down = false
namespace Fit
variable {D D' : Drv} {n : List UInt8} {i : Nat} {A : Area}
theorem same (h : Fit D n i A) (ha : D'.as = D.as) (hd : D'.down = false) : Fit D' n i A := ⟨by rw [Drv.at?_congr ha]; exact h.at_, by have := h.ar; unfold Drv.ar at this ⊢; rw [ha]; exact this, hd⟩
theorem size (h : Fit D n i A) : D.size n = ((A.b.length : Int), 0) := by
  obtain ⟨ha, rfl, hd⟩ := h
  unfold Drv.size; rw [ha]
theorem err (h : Fit D n i A) {off len : Int} : D.err n off len = if within off len A.b.length then 0 else 10 := by
  obtain ⟨ha, rfl, hd⟩ := h
  unfold Drv.err; rw [ha, hd]; rfl
theorem read (h : Fit D n i A) {off len : Int} : D.read n off len = if within off len A.b.length = false then ([], 10, D) else if A.badIn off len then ([], 41, D) else ((A.b.drop off.toNat).take len.toNat, 0, { D with count := cap60 (D.count + 1), bytes := cap60 (D.bytes + len) }) := by
  obtain ⟨ha, rfl, hd⟩ := h
  unfold Drv.read
  rw [(Fit.mk ha rfl hd).err, ha]
  cases within off len (D.ar i).b.length <;> rfl
theorem write (h : Fit D n i A) (hl : D.left ≠ 0) {off : Int} {bs : List UInt8} (hw : within off bs.length A.b.length = true) : D.write n off bs = (0, { D.set i (A.setB (over A.b bs off.toNat fun _ => true)) with left := max (D.left - 1) (-1) }) := by
  obtain ⟨ha, rfl, hd⟩ := h
  unfold Drv.write
  rw [(Fit.mk ha rfl hd).err, ha, hw]
  dsimp only [Option.getD_some]
  rw [if_neg (by simp), if_pos hl]
theorem write0 (h : Fit D n i A) (hl : D.left = 0) {off : Int} {bs : List UInt8} (hw : within off bs.length A.b.length = true) : D.write n off bs = (42, { D.set i (A.setB (over A.b bs off.toNat fun k => D.keep.getD k false)) with down := true }) := by
  obtain ⟨ha, rfl, hd⟩ := h
  unfold Drv.write
  rw [(Fit.mk ha rfl hd).err, ha, hw]
  dsimp only [Option.getD_some]
  rw [if_neg (by simp), if_neg (by simpa using hl)]
theorem lt (h : Fit D n i A) : i < D.as.length := Drv.at?_lt h.at_
theorem set (h : Fit D n i A) (b : List UInt8) : Fit (D.set i (A.setB b)) n i (A.setB b) :=
  ⟨by rw [Drv.at?_set (by rw [h.ar]; rfl)]; exact h.at_, Drv.ar_set h.lt _, h.dn⟩
theorem other {n' : List UInt8} {j : Nat} {A' : Area} (h : Fit D n i A) (h' : Fit D n' j A') (hij : i ≠ j) (b : List UInt8) : Fit (D.set i (A.setB b)) n' j A' :=
  ⟨by rw [Drv.at?_set (by rw [h.ar]; rfl)]; exact h'.at_, by
    have := h'.ar
    unfold Drv.ar Drv.set at *
    rw [List.getD_eq_getElem?_getD, List.getElem?_set_ne hij, ← List.getD_eq_getElem?_getD]; exact this, h.dn⟩
end Fit
/-- What Load tells of an area. -/
def loadP (A : Area) : List UInt8 × Tl × Int :=
  if A.badIn ((A.b.length : Int) - 64) 64 then ([], .zero, 41) else if tErr (A.b.drop (A.b.length - 64)) ≠ 0 then ([], .zero, tErr (A.b.drop (A.b.length - 64)))
  else if within (tAt (A.b.drop (A.b.length - 64))).o (tAt (A.b.drop (A.b.length - 64))).s ((A.b.length : Int) - 64) = false then ([], .zero, 13)
  else if A.badIn (tAt (A.b.drop (A.b.length - 64))).o (tAt (A.b.drop (A.b.length - 64))).s then ([], .zero, 41)
  else ((A.b.drop (tAt (A.b.drop (A.b.length - 64))).o.toNat).take (tAt (A.b.drop (A.b.length - 64))).s.toNat, tAt (A.b.drop (A.b.length - 64)), 0)
theorem load_fit {D : Drv} {n : List UInt8} {i : Nat} {A : Area} (h : Fit D n i A) (hN : 64 ≤ A.b.length) :
    ∃ D', tLoad D n = ((loadP A).1, (loadP A).2.1, (loadP A).2.2, D') ∧ D'.as = D.as ∧ D'.left = D.left ∧ D'.keep = D.keep ∧ D'.down = false := by
  have hw : within ((A.b.length : Int) - 64) 64 A.b.length = true := within_iff.2 (by omega)
  unfold tLoad
  rw [h.size, if_neg (by simp), h.read, hw]
  simp only [Bool.true_eq_false, if_false]
  unfold loadP
  by_cases hb : A.badIn ((A.b.length : Int) - 64) 64 = true
  · simp only [hb, if_true]
    rw [if_pos (by decide)]
    exact ⟨D, rfl, rfl, rfl, rfl, h.dn⟩
  · simp only [hb, if_false, Bool.false_eq_true]
    rw [if_neg (by simp)]
    have hd : (A.b.drop ((A.b.length : Int) - 64).toNat).take (64 : Int).toNat = A.b.drop (A.b.length - 64) := by
      rw [show ((A.b.length : Int) - 64).toNat = A.b.length - 64 by omega]
      exact List.take_of_length_le (by simp; omega)
    rw [hd]
    generalize hD1 : ({ D with count := cap60 (D.count + 1), bytes := cap60 (D.bytes + 64) } : Drv) = D1
    have h1 : Fit D1 n i A := h.same (by subst hD1; rfl) (by subst hD1; exact h.dn)
    have s1 : D1.as = D.as ∧ D1.left = D.left ∧ D1.keep = D.keep := by subst hD1; exact ⟨rfl, rfl, rfl⟩
    unfold tLoad2
    generalize A.b.drop (A.b.length - 64) = bs
    by_cases he : tErr bs = 0
    · rw [if_neg (Classical.not_not.2 he), if_neg (Classical.not_not.2 he)]
      by_cases hwi : within (tAt bs).o (tAt bs).s ((A.b.length : Int) - 64) = true
      · have hwi2 : within (tAt bs).o (tAt bs).s A.b.length = true := by have := within_iff.1 hwi; exact within_iff.2 (by omega)
        simp only [hwi, Bool.true_eq_false, if_false]
        rw [h1.read, hwi2]
        simp only [Bool.true_eq_false, if_false]
        by_cases hb2 : A.badIn (tAt bs).o (tAt bs).s = true
        · simp only [hb2, if_true]
          rw [if_pos (by decide)]
          exact ⟨D1, rfl, s1.1, s1.2.1, s1.2.2, h1.dn⟩
        · simp only [hb2, if_false, Bool.false_eq_true]
          rw [if_neg (by simp)]
          exact ⟨_, rfl, s1.1, s1.2.1, s1.2.2, h1.dn⟩
      · have hwi' : within (tAt bs).o (tAt bs).s ((A.b.length : Int) - 64) = false := by simpa using hwi
        rw [if_pos hwi', if_pos hwi']
        exact ⟨D1, rfl, s1.1, s1.2.1, s1.2.2, h1.dn⟩
    · rw [if_pos he, if_pos he]
      exact ⟨D1, rfl, s1.1, s1.2.1, s1.2.2, h1.dn⟩
/-- What Store tells and leaves. -/
def storeP (b : List UInt8) (data : Int) (raw : List UInt8) : Int × List UInt8 :=
  if data < 0 ∨ raw.length < 1 ∨ raw.length > 65536 then (12, b)
  else if (align data 64).2 ≠ 0 ∨ within (align data 64).1 raw.length ((b.length : Int) - 64) = false then (43, b)
  else (0, over (over b raw (align data 64).1.toNat fun _ => true) (tB ⟨data, (align data 64).1, raw.length⟩) (b.length - 64) fun _ => true)
theorem storeP_len (b : List UInt8) (data : Int) (raw : List UInt8) : (storeP b data raw).2.length = b.length := by
  unfold storeP
  split
  · rfl
  · split
    · rfl
    · simp only [over_length]
theorem store_fit {D : Drv} {n : List UInt8} {i : Nat} {A : Area} {data : Int} {raw : List UInt8} (h : Fit D n i A) (hN : 64 ≤ A.b.length) (hl : D.left = -1) :
    ∃ D', tStore D n data raw = ((storeP A.b data raw).1, D') ∧ Fit D' n i (A.setB (storeP A.b data raw).2) ∧ D'.left = -1 ∧ D'.keep = D.keep ∧
      ∀ n' j A', j ≠ i → Fit D n' j A' → Fit D' n' j A' := by
  unfold tStore storeP
  rw [h.size]
  simp only [ne_eq, not_true_eq_false, if_false]
  by_cases h1 : data < 0 ∨ raw.length < 1 ∨ raw.length > 65536
  · rw [if_pos h1, if_pos h1]
    refine ⟨D, rfl, ?_, hl, rfl, fun _ _ _ _ h => h⟩
    rw [Area.setB_self]; exact h
  · rw [if_neg h1, if_neg h1]
    by_cases h2 : (¬ (align data 64).2 = 0 ∨ within (align data 64).1 raw.length ((A.b.length : Int) - 64) = false)
    · rw [if_pos h2, if_pos h2]
      refine ⟨D, rfl, ?_, hl, rfl, fun _ _ _ _ h => h⟩
      rw [Area.setB_self]; exact h
    · rw [if_neg h2, if_neg h2]
      have hw : within (align data 64).1 raw.length ((A.b.length : Int) - 64) = true := by
        cases hx : within (align data 64).1 raw.length ((A.b.length : Int) - 64) with
        | true => rfl
        | false => exact absurd (Or.inr hx) h2
      have hwi := within_iff.1 hw
      rw [h.write (by omega) (within_iff.2 (by omega))]
      rw [if_neg (by simp)]
      dsimp only
      generalize hb1 : over A.b raw (align data 64).1.toNat (fun _ => true) = b1
      have hb1l : b1.length = A.b.length := by rw [← hb1, over_length]
      have f1 : Fit { D.set i (A.setB b1) with left := max (D.left - 1) (-1) } n i (A.setB b1) := (h.set b1).same rfl h.dn
      have ht := tB_len ⟨data, (align data 64).1, raw.length⟩
      rw [f1.write (by show max (D.left - 1) (-1) ≠ 0; omega) (by rw [Area.setB_b, ht, hb1l]; exact within_iff.2 (by omega))]
      rw [Area.setB_b, show ((A.b.length : Int) - 64).toNat = A.b.length - 64 by omega, Area.setB_setB]
      generalize over b1 (tB ⟨data, (align data 64).1, raw.length⟩) (A.b.length - 64) (fun _ => true) = b2
      have f2 := f1.set b2
      rw [Area.setB_setB] at f2
      refine ⟨_, rfl, f2.same rfl f2.dn, by show max (max (D.left - 1) (-1) - 1) (-1) = -1; omega, rfl, fun n' j A' hj h' => ?_⟩
      have g1 : Fit { D.set i (A.setB b1) with left := max (D.left - 1) (-1) } n' j A' := (h.other h' (Ne.symm hj) b1).same rfl h.dn
      have g2 := f1.other g1 (Ne.symm hj) b2
      rw [Area.setB_setB] at g2
      exact g2.same rfl g2.dn
theorem over_same {old bs : List UInt8} {off : Nat} (h : off + bs.length ≤ old.length) : ((over old bs off fun _ => true).drop off).take bs.length = bs := by
  have hl : (old.take off).length = off := by simp; omega
  rw [over_all h, List.append_assoc, List.drop_left' hl, List.take_left' rfl]
theorem over_apart {old bs : List UInt8} {off a l : Nat} {p : Nat → Bool} (h : a + l ≤ off ∨ off + bs.length ≤ a) : ((over old bs off p).drop a).take l = (old.drop a).take l := by
  apply List.ext_getElem?
  intro i
  rw [List.getElem?_take, List.getElem?_take]
  by_cases hi : i < l
  · rw [if_pos hi, if_pos hi, List.getElem?_drop, List.getElem?_drop]
    by_cases hk : a + i < old.length
    · rw [over_get hk, if_neg (by omega)]; simp [hk]
    · rw [List.getElem?_eq_none (by rw [over_length]; omega), List.getElem?_eq_none (by omega)]
  · rw [if_neg hi, if_neg hi]
/-- What was stored right. -/
theorem stored {b raw : List UInt8} {data : Int} (h : (storeP b data raw).1 = 0) (hN : b.length ≤ 1048576) : 0 ≤ data ∧ 1 ≤ raw.length ∧ raw.length ≤ 65536 ∧ data ≤ (align data 64).1 ∧ (align data 64).1 < data + 64 ∧ (align data 64).1 % 64 = 0 ∧ (align data 64).1 + raw.length ≤ (b.length : Int) - 64 ∧
    (storeP b data raw).2 = over (over b raw (align data 64).1.toNat fun _ => true) (tB ⟨data, (align data 64).1, raw.length⟩) (b.length - 64) (fun _ => true) ∧ (⟨data, (align data 64).1, raw.length⟩ : Tl).right = true := by
  unfold storeP at h ⊢
  split at h
  · simp at h
  · rename_i h1
    split at h
    · simp at h
    · rename_i h2
      rw [if_neg h1, if_neg h2]
      have ha : (align data 64).2 = 0 := Classical.not_not.1 fun hx => h2 (.inl hx)
      have hw : within (align data 64).1 raw.length ((b.length : Int) - 64) = true := by
        cases hx : within (align data 64).1 raw.length ((b.length : Int) - 64) with
        | true => rfl
        | false => exact absurd (Or.inr hx) h2
      have hwi := within_iff.1 hw
      have hal : data ≤ (align data 64).1 ∧ (align data 64).1 < data + 64 ∧ (align data 64).1 % 64 = 0 := by
        unfold align at ha ⊢
        split at ha
        · simp at ha
        · rename_i h3
          split at ha
          · simp at ha
          · rename_i h4
            split at ha
            · rename_i h5
              rw [if_neg h3, if_neg h4, if_pos h5]
              simp only
              omega
            · simp at ha
      refine ⟨by omega, by omega, by omega, hal.1, hal.2.1, hal.2.2, by omega, rfl, tright_iff.2 ?_⟩
      simp only
      omega
theorem drop_all {l : List UInt8} (h : 64 ≤ l.length) : l.drop (l.length - 64) = (l.drop (l.length - 64)).take 64 := (List.take_of_length_le (by simp; omega)).symm
theorem load_tail {A : Area} {raw : List UInt8} {t : Tl} (hN : 64 ≤ A.b.length) (hb : A.bad = fun _ => false) (ht : t.right = true) (hd : A.b.drop (A.b.length - 64) = tB t) (hw : t.o + t.s ≤ (A.b.length : Int) - 64) (hr : (A.b.drop t.o.toNat).take t.s.toNat = raw) : loadP A = (raw, t, 0) := by
  have hbad : ∀ off len, A.badIn off len = false := fun off len => by unfold Area.badIn; rw [hb]; simp
  have hti := tright_iff.1 ht
  unfold loadP
  rw [hbad, hd, tAt_tB ht, tErr_tB ht, hbad, hr]
  rw [if_neg (by simp), if_neg (by simp), if_neg (by rw [within_iff.2 (by omega)]; simp), if_neg (by simp)]
theorem load_stored {nm b raw : List UInt8} {data : Int} (h : (storeP b data raw).1 = 0) (hN : b.length ≤ 1048576) : loadP ⟨nm, (storeP b data raw).2, fun _ => false⟩ = (raw, ⟨data, (align data 64).1, raw.length⟩, 0) := by
  obtain ⟨h1, h2, h3, h4, h5, h6, h7, h8, h9⟩ := stored h hN
  have hl := storeP_len b data raw
  have ht := tB_len ⟨data, (align data 64).1, raw.length⟩
  have hl1 : (over b raw (align data 64).1.toNat fun _ => true).length = b.length := over_length _ _ _ _
  refine load_tail (by show 64 ≤ (storeP b data raw).2.length; omega) rfl h9 ?_ ?_ ?_
  · show (storeP b data raw).2.drop ((storeP b data raw).2.length - 64) = _
    rw [drop_all (by omega), hl, h8]
    have := over_same (old := over b raw (align data 64).1.toNat fun _ => true) (bs := tB ⟨data, (align data 64).1, raw.length⟩) (off := b.length - 64) (by omega)
    rw [ht] at this
    exact this
  · show (align data 64).1 + (raw.length : Int) ≤ ((storeP b data raw).2.length : Int) - 64
    omega
  · show ((storeP b data raw).2.drop (align data 64).1.toNat).take ((raw.length : Nat) : Int).toNat = raw
    rw [h8, Int.toNat_natCast, over_apart (.inl (by omega))]
    exact over_same (by omega)
end Go.S
