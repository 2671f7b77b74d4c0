/- Layer 10 (drive): the law DriveTears. -/
import Derived.Test.YtjphpadgbhegaaaLaw10a
set_option linter.unusedSimpArgs false
set_option linter.unusedVariables false
namespace Go.Proofs.Ytjphpadgbhegaaa
open Go Go.Eng
theorem x_toList : (ByteArray.mk #[120]).toList = [120] := str_toList [120]
theorem DriveTears_s {p0 p1 p3 : Sl} {off : Int} {old bs : List UInt8} {ks : List Bool} {K : Bool → World → Prop} {w : World} (hold : Bts w p0 old) (hbs : Bts w p1 bs) (hoff : S.I64 off) (hks : Rd w p3 1 (ks.map Value.bool)) (hK : ∀ w', Ext w w' → K true w') :
    callS Try.prog 3 #[.slice p0.a p0.len p0.cap, .slice p1.a p1.len p1.cap, .int .i64 off, .slice p3.a p3.len p3.cap] [.one .bool] K w := by
  refine f3_ok ?_
  unfold f3
  have hol := Bts.len hold
  have hbl := Bts.len hbs
  have hkl : p3.len = ks.length := by have := hks.len; simp at this; omega
  refine anchor10_s fun w1 e1 => ?_
  refine cond_i (fun h => by cases h) (fun _ => ?_)
  refine cond_i (fun _ => hK w1 e1) (fun hg => ?_)
  simp only [Bool.or_eq_false_iff, decide_eq_false_iff_not] at hg
  obtain ⟨⟨⟨⟨g1, g2⟩, g3⟩, g4⟩, g5⟩ := hg
  rw [wrap_i64 (by omega) (by omega)] at g4
  refine newOne_s (name := [120]) rfl ⟨by omega, by omega⟩ (by decide) (fun w' e h => absurd (by decide +kernel) h) fun gd L w2 e2 _ hgd hin d2 => ?_
  have own : ∀ {a b : World}, Ext w1 a → Fr (L.inD gd) a b → Ext w1 b := fun h1 h2 => Ext.own h1 h2 hin
  have own1 : ∀ {a b : World}, Ext w1 a → Fr (fun k => k = gd) a b → Ext w1 b := fun h1 h2 => Fr.own1 h1 h2 hgd
  have sep : ∀ {xs : List UInt8} {p : Sl}, Bts w1 p xs → xs ≠ [] → ∀ a, p.a = some a → ∀ {L' : Lay}, (∀ k, L'.inD gd k → w1.heap.size ≤ k) → ¬ L'.inD gd a.block := fun h hne a ha L' hL hk => by
    have := rd_lt h (by simpa using hne) ha; have := hL _ hk; omega
  have hold1 := hold.ext e1
  have hbs1 := hbs.ext e1
  refine join_i (fun b w' => b = false ∧ w2 = w') ?_ ?_
  rotate_left
  · intro J hJ
    refine cond_i (fun h => by cases h) (fun _ => ?_)
    exact ptrEq_i (hJ _ _ ⟨rfl, rfl⟩)
  rintro b w' ⟨rfl, rfl⟩
  have hz : (List.replicate (640 : Int).toNat (0 : UInt8)).length = 640 := by rw [List.length_replicate]; rfl
  refine join_i (fun b w' => b = false ∧ Ext w1 w' ∧ DriveAt w' gd L (S.one [120] (S.over (List.replicate (640 : Int).toNat 0) old (0 : Int).toNat fun _ => true) (fun _ => false) (-1) [] false 0 0)) ?_ ?_
  rotate_left
  · intro J hJ
    refine cond_i (fun h => by cases h) (fun _ => ?_)
    refine dWrite_s (name := ByteArray.mk #[120]) d2 ⟨by omega, by omega⟩ (hold1.ext e2) (by omega) (fun hne a ha => sep hold1 hne a ha hin) fun w3 f3 d3 => ?_
    rw [x_toList] at d3 ⊢
    rw [S.write_one (by rw [hz, S.within_iff]; omega) (by decide)] at d3 ⊢
    exact hJ _ _ ⟨rfl, own e2 f3, d3⟩
  rintro b w3 ⟨rfl, e3, d3⟩
  refine cond_i (fun h => by cases h) (fun _ => ?_)
  have hb1 : (S.over (List.replicate (640 : Int).toNat 0) old (0 : Int).toNat fun _ => true).length = 640 := by rw [S.over_length]; exact hz
  generalize S.over (List.replicate (640 : Int).toNat 0) old (0 : Int).toNat (fun _ => true) = b1 at d3 hb1
  refine dRead_s (name := ByteArray.mk #[120]) d3 ⟨by omega, by omega⟩ ⟨by omega, by omega⟩ fun was w4 f4 d4 o4 => ?_
  rw [x_toList] at d4 o4
  rw [S.read_one (by rw [hb1]; decide), S.badIn_none] at d4 o4
  simp only [Bool.false_eq_true, if_false] at d4 o4
  rw [take_all (by omega)] at o4
  have E4 := own1 e3 f4
  have hwl := OwnB.len o4
  refine dArm_s (ks := ks) d4 ⟨by omega, by omega⟩ (hks.ext (e1.trans E4)) (by omega) fun w5 L5 f5 d5 hin5 _ => ?_
  rw [S.arm_one] at d5
  have E5 := own1 E4 f5
  have hin5' : ∀ k, L5.inD gd k → w1.heap.size ≤ k := fun k hk => by
    rcases hin5 k hk with h | h
    · exact hin k h
    · have := E4.size; omega
  have hwas : ∀ k, was.inB k → ¬ L.inD gd k := fun k hk h => by have := (o4.inB hk).1; have := d3.lt h; omega
  have o5 : OwnB w5 w3.heap.size was b1 := o4.fr f5 fun a ha h => hwas _ ⟨a, ha, rfl⟩ (.inl h)
  have hwas5 : ∀ k, was.inB k → ¬ L5.inD gd k := fun k hk h => by
    rcases hin5 k h with h1 | h1
    · exact hwas k hk h1
    · have := (o4.inB hk).2; omega
  refine dWrite_s (name := ByteArray.mk #[120]) d5 hoff (hbs1.ext E5) (by omega) (fun hne a ha => sep hbs1 hne a ha hin5') fun w6 f6 d6 => ?_
  rw [x_toList] at d6 ⊢
  rw [show max (0 : Int) (-1) = 0 by decide] at d6 ⊢
  rw [S.write_one0 (by rw [hb1, S.within_iff]; omega)] at d6 ⊢
  simp only at d6 ⊢
  have E6 : Ext w1 w6 := Ext.own E5 f6 hin5'
  refine cond_i (fun h => by cases h) (fun _ => ?_)
  refine dBoot_s d6 fun w7 f7 d7 => ?_
  rw [S.boot_one] at d7
  have hb2 : (S.over b1 bs off.toNat fun k => ks.getD k false).length = 640 := by rw [S.over_length]; exact hb1
  have hget : ∀ i, i < 640 → (S.over b1 bs off.toNat fun k => ks.getD k false)[i]? = some (if off.toNat ≤ i ∧ i < off.toNat + bs.length ∧ ks.getD (i / 64 - off.toNat / 64) false = true then bs.getD (i - off.toNat) 0 else b1.getD i 0) := fun i hi => S.over_get (by omega)
  generalize S.over b1 bs off.toNat (fun k => ks.getD k false) = b2 at d7 hb2 hget
  refine dRead_s (name := ByteArray.mk #[120]) d7 ⟨by omega, by omega⟩ ⟨by omega, by omega⟩ fun now w8 f8 d8 o8 => ?_
  rw [x_toList] at d8 o8 ⊢
  rw [S.read_one (by rw [hb2]; decide), S.badIn_none] at d8 o8 ⊢
  simp only [Bool.false_eq_true, if_false] at d8 o8 ⊢
  rw [take_all (by omega)] at o8
  have hnl := OwnB.len o8
  have E7 : Ext w1 w7 := Ext.own E6 f7 fun k hk => by omega
  have E8 : Ext w1 w8 := Ext.own E7 f8 fun k hk => by omega
  have o6 : OwnB w8 w3.heap.size was b1 := ((o5.fr f6 fun a ha h => hwas5 _ ⟨a, ha, rfl⟩ h).fr f7 fun a ha h => hwas _ ⟨a, ha, rfl⟩ (.inl h)).fr f8 fun a ha h => hwas _ ⟨a, ha, rfl⟩ (.inl h)
  refine cond_i (fun h => ?_) (fun _ => ?_)
  · rw [hwl, hnl, hb1, hb2] at h; exact absurd h (by decide)
  refine loop_i (fun (x : Int) w' => w8 = w' ∧ ∃ i : Nat, i ≤ 640 ∧ x = i) (fun x _ => 640 - x.toNat) ⟨rfl, 0, by omega, rfl⟩ ?_
  rintro x w9 again ⟨rfl, i, hi, rfl⟩ hag
  refine cond_i (fun hlt => ?_) (fun hge => hK _ (e1.trans E8))
  have hi' : i < 640 := by have := of_decide_eq_true hlt; omega
  have hnext : again (IntKind.wrap .i64 ((i : Int) + 1)) w8 := hag _ _ ⟨rfl, i + 1, by omega, by rw [wrap_i64 (by omega) (by omega)]; omega⟩ (by rw [wrap_i64 (by omega) (by omega)]; omega)
  have hwi : b1[i]? = some (b1.getD i 0) := by simp [show i < b1.length by omega]
  have hni := hget i hi'
  refine elem_i (l := .int .u8) (x := ((b1.getD i 0).toNat : Int)) o6.rd (by omega) (by omega) (by rw [Int.toNat_natCast]; exact bytes_get? hwi) ?_
  have ew : IntKind.wrap .i64 (IntKind.wrap .i64 (Int.tdiv (i : Int) 64) - IntKind.wrap .i64 (Int.tdiv off 64)) = (i : Int) / 64 - off / 64 := by
    rw [Int.tdiv_eq_ediv_of_nonneg (by omega), Int.tdiv_eq_ediv_of_nonneg (by omega), wrap_i64 (x := (i : Int) / 64) (by omega) (by omega), wrap_i64 (x := off / 64) (by omega) (by omega), wrap_i64 (by omega) (by omega)]
  rw [ew, wrap_i64 (x := off + (p1.len : Int)) (by omega) (by omega)]
  refine join_i (fun b w' => b = decide (off.toNat ≤ i ∧ i < off.toNat + bs.length ∧ ks.getD (i / 64 - off.toNat / 64) false = true) ∧ w8 = w') ?_ ?_
  · rintro b w' ⟨rfl, rfl⟩
    refine cond_i (fun hb => ?_) (fun hb => ?_)
    · have hc := of_decide_eq_true hb
      rw [if_pos hc] at hni
      rw [wrap_i64 (x := (i : Int) - off) (by omega) (by omega)]
      refine elem_i (l := .int .u8) (x := ((bs.getD (i - off.toNat) 0).toNat : Int)) (hbs1.ext E8) (by omega) (by omega) (by rw [show ((i : Int) - off).toNat = i - off.toNat by omega]; exact bytes_get? (by simp [show i - off.toNat < bs.length by omega])) ?_
      refine elem_i (l := .int .u8) (x := ((bs.getD (i - off.toNat) 0).toNat : Int)) o8.rd (by omega) (by omega) (by rw [Int.toNat_natCast]; exact bytes_get? hni) ?_
      exact cond_i (fun h => by simp at h) (fun _ => hnext)
    · have hc := of_decide_eq_false hb
      rw [if_neg hc] at hni
      refine elem_i (l := .int .u8) (x := ((b1.getD i 0).toNat : Int)) o8.rd (by omega) (by omega) (by rw [Int.toNat_natCast]; exact bytes_get? hni) ?_
      exact cond_i (fun h => by simp at h) (fun _ => hnext)
  · intro J hJ
    refine cond_i (fun h => ?_) (fun h => ?_)
    · simp only [Bool.and_eq_true, decide_eq_true_eq] at h
      refine elem_i (l := .bool) (x := ks.getD (i / 64 - off.toNat / 64) false) (hks.ext (e1.trans E8)) (by omega) (by omega) (by rw [show ((i : Int) / 64 - off / 64).toNat = i / 64 - off.toNat / 64 by omega]; simp [show i / 64 - off.toNat / 64 < ks.length by omega, Lf.enc]) ?_
      refine hJ _ _ ⟨?_, rfl⟩
      rw [Bool.eq_iff_iff, decide_eq_true_eq]
      constructor
      · intro hb; exact ⟨by omega, by omega, hb⟩
      · rintro ⟨_, _, hb⟩; exact hb
    · refine hJ _ _ ⟨?_, rfl⟩
      symm
      rw [decide_eq_false_iff_not]
      rintro ⟨h1, h2, h3⟩
      have h4 : i / 64 - off.toNat / 64 < ks.length := by
        by_cases hlt : i / 64 - off.toNat / 64 < ks.length
        · exact hlt
        · rw [List.getD_eq_getElem?_getD, List.getElem?_eq_none (by omega)] at h3; cases h3
      rw [Bool.eq_false_iff] at h
      apply h
      simp only [Bool.and_eq_true, decide_eq_true_eq]
      omega
end Go.Proofs.Ytjphpadgbhegaaa
