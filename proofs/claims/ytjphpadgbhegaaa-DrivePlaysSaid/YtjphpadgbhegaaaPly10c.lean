/- Layer 10 (drive): the twin's rows, written; its write. -/
import Derived.Test.YtjphpadgbhegaaaPly10b
set_option linter.unusedSimpArgs false
set_option linter.unusedVariables false
namespace Go.S
open Go Go.Eng
theorem over_snoc {old bs : List UInt8} {off k : Nat} {p : Nat → Bool} (hk : k < bs.length) (hl : off + bs.length ≤ old.length) :
    over old (bs.take (k + 1)) off p = if p ((off + k) / 64 - off / 64) then (over old (bs.take k) off p).set (off + k) bs[k] else over old (bs.take k) off p := by
  have l1 : (bs.take (k + 1)).length = k + 1 := by simp; omega
  have l0 : (bs.take k).length = k := by simp; omega
  have step : ∀ i, i < old.length → i ≠ off + k → (over old (bs.take (k + 1)) off p)[i]? = (over old (bs.take k) off p)[i]? := fun i hi hne => by
    rw [over_get hi, over_get hi, l1, l0]
    by_cases h : off ≤ i ∧ i < off + k ∧ p (i / 64 - off / 64) = true
    · rw [if_pos ⟨h.1, by omega, h.2.2⟩, if_pos h]
      congr 1
      simp only [List.getD_eq_getElem?_getD]
      rw [List.getElem?_take, List.getElem?_take, if_pos (by omega), if_pos (by omega)]
    · rw [if_neg (fun h2 => h ⟨h2.1, by omega, h2.2.2⟩), if_neg h]
  apply List.ext_getElem?
  intro i
  by_cases hi : i < old.length
  · by_cases hik : i = off + k
    · subst hik
      rw [over_get hi, l1]
      by_cases hp : p ((off + k) / 64 - off / 64) = true
      · rw [if_pos ⟨by omega, by omega, hp⟩, if_pos hp, List.getElem?_set_self (by rw [over_length]; exact hi)]
        congr 1
        rw [List.getD_eq_getElem?_getD, List.getElem?_take, if_pos (by omega), show off + k - off = k by omega, List.getElem?_eq_getElem hk]; rfl
      · rw [if_neg (fun h => hp h.2.2), if_neg hp, over_get hi, if_neg (by rw [l0]; omega)]
    · rw [step i hi hik]
      split
      · rw [List.getElem?_set_ne (Ne.symm hik)]
      · rfl
  · have : (if p ((off + k) / 64 - off / 64) = true then (over old (bs.take k) off p).set (off + k) bs[k] else over old (bs.take k) off p).length = old.length := by
      split <;> simp [over_length]
    rw [List.getElem?_eq_none (by rw [over_length]; omega), List.getElem?_eq_none (by omega)]
theorem write_no {D : Drv} {n : List UInt8} {off : Int} {bs : List UInt8} (hd : D.down = false) (h : D.at? n = none) : D.write n off bs = (40, D) := by
  have he : D.err n off bs.length = 40 := by unfold Drv.err; rw [hd, h]; rfl
  unfold Drv.write; rw [he]; rfl
theorem write_dn {D : Drv} {n : List UInt8} {off : Int} {bs : List UInt8} (hd : D.down = true) : D.write n off bs = (42, D) := by
  have he : D.err n off bs.length = 42 := by unfold Drv.err; rw [hd]; rfl
  unfold Drv.write; rw [he]; rfl
theorem write_at {D : Drv} {n : List UInt8} {i : Nat} {off : Int} {bs : List UInt8} (hd : D.down = false) (h : D.at? n = some i) : D.write n off bs = if within off bs.length (D.ar i).b.length = false then (10, D) else
    if D.left ≠ 0 then (0, { D.set i ((D.ar i).setB (over (D.ar i).b bs off.toNat fun _ => true)) with left := max (D.left - 1) (-1) })
    else (42, { D.set i ((D.ar i).setB (over (D.ar i).b bs off.toNat fun k => D.keep.getD k false)) with down := true }) := by
  have he : D.err n off bs.length = if within off bs.length (D.ar i).b.length then 0 else 10 := by unfold Drv.err; rw [hd, h]; rfl
  unfold Drv.write
  rw [he, h]
  cases within off bs.length (D.ar i).b.length <;> rfl
theorem as_same {D : Drv} {i : Nat} {A : Area} (hi : i < D.as.length) (hn : A.name = (D.ar i).name) (hl : A.b.length = (D.ar i).b.length) : ((D.set i A).as.map fun a => (a.name, (a.b.length : Int))) = D.as.map fun a => (a.name, (a.b.length : Int)) := by
  unfold Drv.set Drv.ar at *
  simp only [List.map_set]
  apply List.ext_getElem?
  intro j
  rw [List.getElem?_set]
  split
  · rename_i hij
    subst hij
    simp [hi] at hn hl ⊢
    exact ⟨hn, by omega⟩
  · rfl
end Go.S
namespace Go.Proofs.Ytjphpadgbhegaaa
open Go Go.Eng
section
variable {w w' : World} {B gt : Nat} {T : TLay} {lf : Int} {ar : Bool} {ks : Sl} {D : S.Drv}
theorem TwinAt.upB {i : Nat} {b' : List UInt8} (h : TwinAt w B gt T lf ar ks D) (hi : i < D.as.length) (hf : Fr (T.sB i).inB w w') (ho : OwnB w' B (T.sB i) b') (hl : b'.length = (D.ar i).b.length) : TwinAt w' B gt T lf ar ks (D.set i ((D.ar i).setB b')) := by
  have hn : (D.set i ((D.ar i).setB b')).as.length = D.as.length := by simp [S.Drv.set]
  have hbad : badL ((D.ar i).setB b') = badL (D.ar i) := by unfold badL; rw [S.Area.setB_b, hl]; rfl
  have own : ∀ k, (T.sB i).inB k → T.own D.as.length k := fun k hk => .inr (.inr (.inr (.inl ⟨i, hi, hk⟩)))
  refine ⟨h.var.fr hf fun hk => h.gne _ (own _ hk) rfl, ?_, ?_, ?_, fun j hj => ?_, fun j hj => ?_, rd_fr_ne h.keep hf fun hne a ha hk => ?_, ?_, ?_, ?_, ?_, ?_, ?_, h.arm, h.kne, ?_⟩
  · rw [S.as_same (A := (D.ar i).setB b') hi rfl hl]
    exact ⟨⟨h.ps.rds.rd.fr hf fun a ha hk => (h.lne _ (.inl ⟨a, ha, rfl⟩) i hi).1 hk, h.ps.rds.len, h.ps.rds.each⟩, h.ps.ok⟩
  · rw [hn]; exact h.bs.fr hf fun a ha hk => (h.lne _ (.inr (.inl ⟨a, ha, rfl⟩)) i hi).1 hk
  · rw [hn]; exact h.xs.fr hf fun a ha hk => (h.lne _ (.inr (.inr ⟨a, ha, rfl⟩)) i hi).1 hk
  · rw [hn] at hj
    by_cases hij : i = j
    · subst hij; rw [S.Drv.ar_set hi]; exact ho
    · rw [S.Drv.ar_set_ne hij]
      exact (h.rB j hj).fr hf fun a ha hk => h.bne i j hi hj hij _ hk ⟨a, ha, rfl⟩
  · rw [hn] at hj
    have e : badL ((D.set i ((D.ar i).setB b')).ar j) = badL (D.ar j) := by
      by_cases hij : i = j
      · subst hij; rw [S.Drv.ar_set hi]; exact hbad
      · rw [S.Drv.ar_set_ne hij]
    rw [e]
    exact (h.rX j hj).fr hf fun a ha hk => h.bx i j hi hj _ hk ⟨a, ha, rfl⟩
  · have := h.kne (fun e => hne (by show D.keep.map Value.bool = []; rw [e]; rfl)) a ha; have := h.ge.2 _ (own _ hk); omega
  · rw [hn]; exact h.ge
  · rw [hn]; exact h.gne
  · rw [hn]; exact h.lne
  · rw [hn]; exact h.bne
  · rw [hn]; exact h.xne
  · rw [hn]; exact h.bx
  · rw [hn]; exact fun k hk2 => Nat.lt_of_lt_of_le (h.lt k hk2) hf.size
theorem TwinAt.upX {i : Nat} {f : Int → Bool} (h : TwinAt w B gt T lf ar ks D) (hi : i < D.as.length) (hf : Fr (T.sX i).inB w w') (ho : Own w' B (T.sX i) 1 ((badL ((D.ar i).setBad f)).map Value.bool)) : TwinAt w' B gt T lf ar ks (D.set i ((D.ar i).setBad f)) := by
  have hn : (D.set i ((D.ar i).setBad f)).as.length = D.as.length := by simp [S.Drv.set]
  have own : ∀ k, (T.sX i).inB k → T.own D.as.length k := fun k hk => .inr (.inr (.inr (.inr ⟨i, hi, hk⟩)))
  refine ⟨h.var.fr hf fun hk => h.gne _ (own _ hk) rfl, ?_, ?_, ?_, fun j hj => ?_, fun j hj => ?_, rd_fr_ne h.keep hf fun hne a ha hk => ?_, ?_, ?_, ?_, ?_, ?_, ?_, h.arm, h.kne, ?_⟩
  · rw [S.as_same (A := (D.ar i).setBad f) hi rfl rfl]
    exact ⟨⟨h.ps.rds.rd.fr hf fun a ha hk => (h.lne _ (.inl ⟨a, ha, rfl⟩) i hi).2 hk, h.ps.rds.len, h.ps.rds.each⟩, h.ps.ok⟩
  · rw [hn]; exact h.bs.fr hf fun a ha hk => (h.lne _ (.inr (.inl ⟨a, ha, rfl⟩)) i hi).2 hk
  · rw [hn]; exact h.xs.fr hf fun a ha hk => (h.lne _ (.inr (.inr ⟨a, ha, rfl⟩)) i hi).2 hk
  · rw [hn] at hj
    have e : ((D.set i ((D.ar i).setBad f)).ar j).b = (D.ar j).b := by
      by_cases hij : i = j
      · subst hij; rw [S.Drv.ar_set hi]; rfl
      · rw [S.Drv.ar_set_ne hij]
    rw [e]
    exact (h.rB j hj).fr hf fun a ha hk => h.bx j i hj hi _ ⟨a, ha, rfl⟩ hk
  · rw [hn] at hj
    by_cases hij : i = j
    · subst hij; rw [S.Drv.ar_set hi]; exact ho
    · rw [S.Drv.ar_set_ne hij]
      exact (h.rX j hj).fr hf fun a ha hk => h.xne i j hi hj hij _ hk ⟨a, ha, rfl⟩
  · have := h.kne (fun e => hne (by show D.keep.map Value.bool = []; rw [e]; rfl)) a ha; have := h.ge.2 _ (own _ hk); omega
  · rw [hn]; exact h.ge
  · rw [hn]; exact h.gne
  · rw [hn]; exact h.lne
  · rw [hn]; exact h.bne
  · rw [hn]; exact h.xne
  · rw [hn]; exact h.bx
  · rw [hn]; exact fun k hk2 => Nat.lt_of_lt_of_le (h.lt k hk2) hf.size
end
end Go.Proofs.Ytjphpadgbhegaaa
