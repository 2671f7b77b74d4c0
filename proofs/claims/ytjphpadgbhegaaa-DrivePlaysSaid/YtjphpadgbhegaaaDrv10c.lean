/- Layer 10 (drive): Turn and Bad. -/
import Derived.Test.YtjphpadgbhegaaaDrv10b
set_option linter.unusedSimpArgs false
set_option linter.unusedVariables false
namespace Go.S
open Go Go.Eng
theorem xorAt_length (old xs : List UInt8) (off : Nat) : (xorAt old xs off).length = old.length := by simp [xorAt]
theorem xorAt_get {old xs : List UInt8} {off i : Nat} (h : i < old.length) : (xorAt old xs off)[i]? = some (if off ≤ i ∧ i < off + xs.length then old.getD i 0 ^^^ xs.getD (i - off) 0 else old.getD i 0) := by
  simp [xorAt, h]
theorem xorAt_nil (old : List UInt8) (off : Nat) : xorAt old [] off = old := by
  apply List.ext_getElem?
  intro i
  by_cases hi : i < old.length
  · rw [xorAt_get hi, if_neg (by simp only [List.length_nil]; omega)]; simp [hi]
  · rw [List.getElem?_eq_none (by rw [xorAt_length]; omega), List.getElem?_eq_none (by omega)]
theorem xorAt_step {old xs : List UInt8} {off k : Nat} (h : off + xs.length ≤ old.length) (hk : k < xs.length) : xorAt old (xs.take (k + 1)) off = (xorAt old (xs.take k) off).set (off + k) (old.getD (off + k) 0 ^^^ xs.getD k 0) := by
  apply List.ext_getElem?
  intro i
  by_cases hi : i < old.length
  · rw [xorAt_get hi, List.getElem?_set]
    by_cases h1 : off + k = i
    · subst h1
      rw [if_pos (show off ≤ off + k ∧ off + k < off + (xs.take (k + 1)).length by rw [List.length_take]; omega), if_pos rfl, if_pos (by rw [xorAt_length]; omega)]
      simp [show k < xs.length from hk, List.getElem?_take]
    · rw [if_neg h1, xorAt_get hi]
      congr 1
      by_cases h2 : off ≤ i ∧ i < off + (xs.take k).length
      · have h3 : off ≤ i ∧ i < off + (xs.take (k + 1)).length := by simp at h2 ⊢; omega
        rw [if_pos h2, if_pos h3]
        have h4 : i - off < k := by simp at h2; omega
        simp [List.getElem?_take, h4, show i - off < k + 1 by omega]
      · have h3 : ¬ (off ≤ i ∧ i < off + (xs.take (k + 1)).length) := by simp at h2 ⊢; omega
        rw [if_neg h2, if_neg h3]
  · rw [List.getElem?_eq_none (by rw [xorAt_length]; omega), List.getElem?_eq_none (by rw [List.length_set, xorAt_length]; omega)]
end Go.S
namespace Go.Proofs.Ytjphpadgbhegaaa
open Go Go.Eng
section
variable {w : World} {gd : Nat} {L : Lay} {D : S.Drv}
theorem AreaAt.setBad {w' : World} {a : AL} {A : S.Area} {f : Int → Bool} (h : AreaAt w a A) (hf : Fr (fun k => k = a.mb) w w') (m : MapAt w' kInt Value.bool a.mb (fun k => if f k then some true else none)) : AreaAt w' a (A.setBad f) :=
  ⟨h.var.fr hf h.ne.2.1, h.row.fr hf h.ne.2.2, m, h.ne, h.len⟩
theorem dTurn_s {name : ByteArray} {off : Int} {p : Sl} {xs : List UInt8} {K : Bool → World → Prop} (h : DriveAt w gd L D) (ho : S.I64 off) (hp : Bts w p xs) (hbl : xs.length ≤ 68719476736) (hsep : xs ≠ [] → ∀ a, p.a = some a → ¬ L.inD gd a.block)
    (hK : ∀ w', Fr (L.inD gd) w w' → DriveAt w' gd L (D.turn name.toList off xs).2 → K (D.turn name.toList off xs).1 w') :
    callS Try.prog 16 #[.pointer (some (at_ gd 0)), .string name, .int .i64 off, .slice p.a p.len p.cap] [.one .bool] K w := by
  refine f16_ok ?_
  unfold f16
  have hpl := Bts.len hp
  refine nil_i rfl ?_
  refine area_look h ?_
  refine ptrEq_i ?_
  unfold S.Drv.turn at hK
  cases hi : D.at? name.toList with
  | none =>
    rw [hi] at hK
    refine join_i (fun b w' => b = true ∧ w' = w) ?_ ?_
    · rintro b w' ⟨rfl, rfl⟩
      exact cond_i (fun _ => hK _ (Fr.refl _ _) h) (fun h => by cases h)
    · intro J hJ
      exact cond_i (fun _ => hJ _ _ ⟨rfl, rfl⟩) (fun h => by cases h)
  | some i =>
    rw [hi] at hK
    dsimp only at hK
    have hA := area_at h hi
    have hil := S.Drv.at?_lt hi
    have hal := hA.len
    have hm := al_mem (L := L) (i := i) (by rw [h.len]; exact hil)
    have inbb : L.inD gd (L.al.getD i default).bb := .inr (.inr (.inr (.inr ⟨_, hm, .inr (.inl rfl)⟩)))
    refine join_i (fun b w' => b = (!S.within off xs.length (D.ar i).b.length) ∧ w' = w) ?_ ?_
    · rintro b w' ⟨rfl, rfl⟩
      refine cond_i (fun hb => ?_) (fun hb => ?_)
      · have hw : S.within off xs.length (D.ar i).b.length = false := by simpa using hb
        rw [hw] at hK
        exact hK _ (Fr.refl _ _) h
      · have hw : S.within off xs.length (D.ar i).b.length = true := by simpa using hb
        rw [hw] at hK
        simp only [if_true] at hK
        obtain ⟨q1, q2, q3, q4, q5⟩ := S.within_iff.1 hw
        have hfit : off.toNat + xs.length ≤ (D.ar i).b.length := by omega
        refine loop_i (fun (x : Int) w1 => ∃ k : Nat, k ≤ xs.length ∧ x = k ∧ Fr (L.inD gd) w' w1 ∧ DriveAt w1 gd L (D.set i ((D.ar i).setB (S.xorAt (D.ar i).b (xs.take k) off.toNat)))) (fun x _ => xs.length - x.toNat) ⟨0, by omega, rfl, Fr.refl _ _, ?_⟩ ?_
        · rw [List.take_zero, S.xorAt_nil, S.Area.setB_self, S.Drv.set_self hil]; exact h
        · rintro x w1 again ⟨k, hk, rfl, f1, h1⟩ hag
          have hil1 : i < (D.set i ((D.ar i).setB (S.xorAt (D.ar i).b (xs.take k) off.toNat))).as.length := by simpa [S.Drv.set] using hil
          have hA1 := h1.areas i hil1
          rw [S.Drv.ar_set hil] at hA1
          have hlen1 : (S.xorAt (D.ar i).b (xs.take k) off.toNat).length = (D.ar i).b.length := S.xorAt_length _ _ _
          refine cond_i (fun hlt => ?_) (fun hge => ?_)
          · have hlt' : k < xs.length := by have := of_decide_eq_true hlt; omega
            have hp1 : Bts w1 p xs := rd_fr_ne hp f1 fun hne a ha e => hsep (by simpa using hne) a ha e
            refine elem_i (l := .int .u8) (x := ((xs[k]'hlt').toNat : Int)) hp1 (by omega) (by omega) (by rw [Int.toNat_natCast]; exact bytes_get hlt') ?_
            refine nil_i rfl ?_
            refine ld1_i (l := .slc) (o := 0) (bSl (L.al.getD i default).bb (S.xorAt (D.ar i).b (xs.take k) off.toNat).length) hA1.var rfl ?_
            rw [wrap_i64 (x := off + (k : Int)) (by omega) (by omega)]
            have hidx : (off + (k : Int)).toNat = off.toNat + k := by omega
            have hget : (S.xorAt (D.ar i).b (xs.take k) off.toNat)[off.toNat + k]? = some ((D.ar i).b.getD (off.toNat + k) 0) := by
              rw [S.xorAt_get (by omega), if_neg (by simp; omega)]
            refine elem_i (l := .int .u8) (x := (((D.ar i).b.getD (off.toNat + k) 0).toNat : Int)) hA1.rd (by omega) (show off + (k : Int) < ((S.xorAt (D.ar i).b (xs.take k) off.toNat).length : Int) by omega) (by rw [hidx]; exact bytes_get? hget) ?_
            refine ix_i (a := at_ (L.al.getD i default).bb 0) rfl (by omega) (show off + (k : Int) < ((S.xorAt (D.ar i).b (xs.take k) off.toNat).length : Int) by omega) ?_
            rw [Nat.mul_one, at_add, Nat.zero_add, hidx]
            have hx : xorI .u8 (((D.ar i).b.getD (off.toNat + k) 0).toNat : Int) ((xs[k]'hlt').toNat : Int) = ((((D.ar i).b.getD (off.toNat + k) 0) ^^^ xs.getD k 0).toNat : Int) := by
              rw [xor_u8 (UInt8.toNat_lt _) (UInt8.toNat_lt _), UInt8.toNat_xor]
              simp [hlt']
            rw [hx]
            refine st1_i (o := off.toNat + k) hA1.row (by rw [S.Area.setB_b, List.length_map, hlen1]; omega) rfl fun w2 f2 v2 => ?_
            have hb2 : Var w2 (L.al.getD i default).bb ((S.xorAt (D.ar i).b (xs.take (k + 1)) off.toNat).map vB) := by
              rw [S.xorAt_step hfit hlt', List.map_set]; exact v2
            have hA2 := hA1.setB f2 hb2 (by rw [S.xorAt_length]; exact hlen1.symm)
            have h2 := h1.upArea hil1 (f2.mono fun k _ hk => .inl hk) hA2 (by rw [S.Drv.ar_set hil]; rfl) (by rw [S.Drv.ar_set hil, setB_len, setB_len, S.xorAt_length, S.xorAt_length])
            rw [S.Drv.set_set, S.Area.setB_setB] at h2
            refine hag _ w2 ⟨k + 1, by omega, by rw [wrap_i64 (by omega) (by omega)]; omega, f1.trans f2 fun k _ hk => by rw [hk]; exact inbb, h2⟩ (by rw [wrap_i64 (by omega) (by omega)]; omega)
          · have hkn : k = xs.length := by have := of_decide_eq_false hge; omega
            subst hkn
            rw [List.take_of_length_le (Nat.le_refl _)] at h1
            exact hK w1 f1 h1
    · intro J hJ
      refine cond_i (fun h => by cases h) (fun _ => ?_)
      refine nil_i rfl ?_
      refine ld1_i (l := .slc) (o := 0) (bSl (L.al.getD i default).bb (D.ar i).b.length) hA.var rfl ?_
      rw [show ((p.len : Nat) : Int) = ((xs.length : Nat) : Int) by rw [hpl]]
      refine within_s ho ⟨by omega, by omega⟩ ⟨by simp only; omega, by simp only; omega⟩ ?_
      exact hJ _ _ ⟨rfl, rfl⟩
theorem dBad_s {name : ByteArray} {sec : Int} {on : Bool} {K : Bool → World → Prop} (h : DriveAt w gd L D) (ho : S.I64 sec)
    (hK : ∀ w', Fr (L.inD gd) w w' → DriveAt w' gd L (D.badS name.toList sec on).2 → K (D.badS name.toList sec on).1 w') :
    callS Try.prog 14 #[.pointer (some (at_ gd 0)), .string name, .int .i64 sec, .bool on] [.one .bool] K w := by
  refine f14_ok ?_
  unfold f14
  refine nil_i rfl ?_
  refine area_look h ?_
  refine ptrEq_i ?_
  unfold S.Drv.badS at hK
  cases hi : D.at? name.toList with
  | none =>
    rw [hi] at hK
    refine join_i (fun b w' => b = true ∧ w' = w) ?_ ?_
    · rintro b w' ⟨rfl, rfl⟩
      exact cond_i (fun _ => hK _ (Fr.refl _ _) h) (fun h => by cases h)
    · intro J hJ
      exact cond_i (fun _ => hJ _ _ ⟨rfl, rfl⟩) (fun h => by cases h)
  | some i =>
    rw [hi] at hK
    dsimp only at hK
    have hA := area_at h hi
    have hil := S.Drv.at?_lt hi
    have hal := hA.len
    have hm := al_mem (L := L) (i := i) (by rw [h.len]; exact hil)
    have inmb : L.inD gd (L.al.getD i default).mb := .inr (.inr (.inr (.inr ⟨_, hm, .inr (.inr rfl)⟩)))
    refine join_i (fun b w' => b = decide (sec < 0 ∨ sec ≥ ((D.ar i).b.length : Int) / 64) ∧ w' = w) ?_ ?_
    · rintro b w' ⟨rfl, rfl⟩
      refine cond_i (fun hb => ?_) (fun hb => ?_)
      · rw [if_pos (of_decide_eq_true hb)] at hK
        exact hK _ (Fr.refl _ _) h
      · rw [if_neg (of_decide_eq_false hb)] at hK
        refine nil_i rfl ?_
        refine ld1_i (l := .mp) (o := 1) (some (L.al.getD i default).mb) hA.var rfl ?_
        refine update_i (k := sec) (v := true) hA.bad rfl rfl fun w1 f1 m1 => ?_
        have hup : ∀ (f : Int → Bool) (w2 : World), Fr (fun k => k = (L.al.getD i default).mb) w' w2 → MapAt w2 kInt Value.bool (L.al.getD i default).mb (fun k => if f k then some true else none) → DriveAt w2 gd L (D.set i ((D.ar i).setBad f)) := fun f w2 hf m2 => h.upArea hil (hf.mono fun k _ hk => .inr hk) (hA.setBad hf m2) rfl rfl
        refine cond_i (fun hon => ?_) (fun hon => ?_)
        · have hon' : on = false := by simpa using hon
          subst hon'
          refine nil_i rfl ?_
          refine ld1_i (l := .mp) (o := 1) (some (L.al.getD i default).mb) (hA.var.fr f1 hA.ne.2.1) rfl ?_
          refine delete_i (k := sec) m1 rfl fun w2 f2 m2 => ?_
          refine hK w2 ((f1.trans' f2).mono fun k _ hk => by rw [hk]; exact inmb) (hup _ w2 (f1.trans' f2) (m2.congr fun k => ?_))
          by_cases hk : k = sec <;> simp [hk]
        · have hon' : on = true := by simpa using hon
          subst hon'
          refine hK w1 (f1.mono fun k _ hk => by rw [hk]; exact inmb) (hup _ w1 f1 (m1.congr fun k => ?_))
          by_cases hk : k = sec <;> simp [hk]
    · intro J hJ
      refine cond_i (fun hb => ?_) (fun hb => ?_)
      · have hs : sec < 0 := by simpa using hb
        exact hJ _ _ ⟨by simp [hs], rfl⟩
      · have hs : ¬ sec < 0 := by simpa using hb
        refine nil_i rfl ?_
        refine ld1_i (l := .slc) (o := 0) (bSl (L.al.getD i default).bb (D.ar i).b.length) hA.var rfl ?_
        refine hJ _ _ ⟨?_, rfl⟩
        simp only
        rw [Int.tdiv_eq_ediv_of_nonneg (by omega), wrap_i64 (by omega) (by omega)]
        simp [hs]
end
end Go.Proofs.Ytjphpadgbhegaaa
