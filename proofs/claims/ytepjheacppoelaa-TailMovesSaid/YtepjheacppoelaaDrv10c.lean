/- Layer 10 (drive): Turn and Bad. -/
import Derived.Test.YtepjheacppoelaaDrv10b
set_option linter.unusedSimpArgs false
set_option linter.unusedVariables false
namespace Go.S
open Go Go.Eng
theorem xorAt_length (old xs : List UInt8) (off : Nat) : (xorAt old xs off).length = old.length := by simp [xorAt]
theorem xorAt_get {old xs : List UInt8} {off i : Nat} (h : i < old.length) : (xorAt old xs off)[i]? = some (if off ≤ i ∧ i < off + xs.length then old.getD i 0 ^^^ xs.getD (i - off) 0 else old.getD i 0) := by
  simp [xorAt, h]
theorem xorAt_nil (old : List UInt8) (off : Nat) : xorAt old [] off = old := by
  apply List.ext_getElem?
  intro i
  by_cases hi : i < old.length
  · rw [xorAt_get hi, if_neg (by simp only [List.length_nil]; omega)]; simp [hi]
  · rw [List.getElem?_eq_none (by rw [xorAt_length]; omega), List.getElem?_eq_none (by omega)]
theorem xorAt_step {old xs : List UInt8} {off k : Nat} (h : off + xs.length ≤ old.length) (hk : k < xs.length) : xorAt old (xs.take (k + 1)) off = (xorAt old (xs.take k) off).set (off + k) (old.getD (off + k) 0 ^^^ xs.getD k 0) := by
  apply List.ext_getElem?
  intro i
  by_cases hi : i < old.length
  · rw [xorAt_get hi, List.getElem?_set]
    by_cases h1 : off + k = i
    · subst h1
      rw [if_pos (show off ≤ off + k ∧ off + k < off + (xs.take (k + 1)).length by rw [List.length_take]; omega), if_pos rfl, if_pos (by rw [xorAt_length]; omega)]
      simp [show k < xs.length from hk, List.getElem?_take]
    · rw [if_neg h1, xorAt_get hi]
      congr 1
      by_cases h2 : off ≤ i ∧ i < off + (xs.take k).length
      · have h3 : off ≤ i ∧ i < off + (xs.take (k + 1)).length := by simp at h2 ⊢; omega
        rw [if_pos h2, if_pos h3]
        have h4 : i - off < k := by simp at h2; omega
        simp [List.getElem?_take, h4, show i - off < k + 1 by omega]
      · have h3 : ¬ (off ≤ i ∧ i < off + (xs.take (k + 1)).length) := by simp at h2 ⊢; omega
        rw [if_neg h2, if_neg h3]
  · rw [List.getElem?_eq_none (by rw [xorAt_length]; omega), List.getElem?_eq_none (by rw [List.length_set, xorAt_length]; omega)]
end Go.S
namespace Go.Proofs.Ytepjheacppoelaa
open Go Go.Eng
section
variable {w : World} {gd : Nat} {L : Lay} {D : S.Drv}
theorem AreaAt.setBad {w' : World} {a : AL} {A : S.Area} {f : Int → Bool} (h : AreaAt w a A) (hf : Fr (fun k => k = a.mb) w w') (m : MapAt w' kInt Value.bool a.mb (fun k => if f k then some true else none)) : AreaAt w' a (A.setBad f) :=
  ⟨h.var.fr hf h.ne.2.1, h.row.fr hf h.ne.2.2, m, h.ne, h.len⟩
theorem dBad_s {name : ByteArray} {sec : Int} {on : Bool} {K : Bool → World → Prop} (h : DriveAt w gd L D) (ho : S.I64 sec)
    (hK : ∀ w', Fr (L.inD gd) w w' → DriveAt w' gd L (D.badS name.toList sec on).2 → K (D.badS name.toList sec on).1 w') :
    callS Try.prog 24 #[.pointer (some (at_ gd 0)), .string name, .int .i64 sec, .bool on] [.one .bool] K w := by
  refine f24_ok ?_
  unfold f24
  refine nil_i rfl ?_
  refine area_look h ?_
  refine ptrEq_i ?_
  unfold S.Drv.badS at hK
  cases hi : D.at? name.toList with
  | none =>
    rw [hi] at hK
    refine join_i (fun b w' => b = true ∧ w' = w) ?_ ?_
    · rintro b w' ⟨rfl, rfl⟩
      exact cond_i (fun _ => hK _ (Fr.refl _ _) h) (fun h => by cases h)
    · intro J hJ
      exact cond_i (fun _ => hJ _ _ ⟨rfl, rfl⟩) (fun h => by cases h)
  | some i =>
    rw [hi] at hK
    dsimp only at hK
    have hA := area_at h hi
    have hil := S.Drv.at?_lt hi
    have hal := hA.len
    have hm := al_mem (L := L) (i := i) (by rw [h.len]; exact hil)
    have inmb : L.inD gd (L.al.getD i default).mb := .inr (.inr (.inr (.inr ⟨_, hm, .inr (.inr rfl)⟩)))
    refine join_i (fun b w' => b = decide (sec < 0 ∨ sec ≥ ((D.ar i).b.length : Int) / 64) ∧ w' = w) ?_ ?_
    · rintro b w' ⟨rfl, rfl⟩
      refine cond_i (fun hb => ?_) (fun hb => ?_)
      · rw [if_pos (of_decide_eq_true hb)] at hK
        exact hK _ (Fr.refl _ _) h
      · rw [if_neg (of_decide_eq_false hb)] at hK
        refine nil_i rfl ?_
        refine ld1_i (l := .mp) (o := 1) (some (L.al.getD i default).mb) hA.var rfl ?_
        refine update_i (k := sec) (v := true) hA.bad rfl rfl fun w1 f1 m1 => ?_
        have hup : ∀ (f : Int → Bool) (w2 : World), Fr (fun k => k = (L.al.getD i default).mb) w' w2 → MapAt w2 kInt Value.bool (L.al.getD i default).mb (fun k => if f k then some true else none) → DriveAt w2 gd L (D.set i ((D.ar i).setBad f)) := fun f w2 hf m2 => h.upArea hil (hf.mono fun k _ hk => .inr hk) (hA.setBad hf m2) rfl rfl
        refine cond_i (fun hon => ?_) (fun hon => ?_)
        · have hon' : on = false := by simpa using hon
          subst hon'
          refine nil_i rfl ?_
          refine ld1_i (l := .mp) (o := 1) (some (L.al.getD i default).mb) (hA.var.fr f1 hA.ne.2.1) rfl ?_
          refine delete_i (k := sec) m1 rfl fun w2 f2 m2 => ?_
          refine hK w2 ((f1.trans' f2).mono fun k _ hk => by rw [hk]; exact inmb) (hup _ w2 (f1.trans' f2) (m2.congr fun k => ?_))
          by_cases hk : k = sec <;> simp [hk]
        · have hon' : on = true := by simpa using hon
          subst hon'
          refine hK w1 (f1.mono fun k _ hk => by rw [hk]; exact inmb) (hup _ w1 f1 (m1.congr fun k => ?_))
          by_cases hk : k = sec <;> simp [hk]
    · intro J hJ
      refine cond_i (fun hb => ?_) (fun hb => ?_)
      · have hs : sec < 0 := by simpa using hb
        exact hJ _ _ ⟨by simp [hs], rfl⟩
      · have hs : ¬ sec < 0 := by simpa using hb
        refine nil_i rfl ?_
        refine ld1_i (l := .slc) (o := 0) (bSl (L.al.getD i default).bb (D.ar i).b.length) hA.var rfl ?_
        refine hJ _ _ ⟨?_, rfl⟩
        simp only
        rw [Int.tdiv_eq_ediv_of_nonneg (by omega), wrap_i64 (by omega) (by omega)]
        simp [hs]
end
end Go.Proofs.Ytepjheacppoelaa
