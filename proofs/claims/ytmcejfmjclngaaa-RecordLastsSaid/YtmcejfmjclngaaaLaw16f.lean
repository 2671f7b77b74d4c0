/- Layer 16 (record): the law RecordLasts. -/
import Derived.Test.YtmcejfmjclngaaaLaw16e
set_option linter.unusedSimpArgs false
set_option linter.unusedVariables false
namespace Go.S
open Go Go.Eng
/-- The first sector's first bytes behind a write of so many. -/
theorem over_take {b rec : List UInt8} {p : Nat → Bool} (hb : b.length = 64) (hr : rec.length = 32) : (over b rec 0 p).take 32 = if p 0 then rec else b.take 32 := by
  apply List.ext_getElem?
  intro i
  rw [List.getElem?_take]
  by_cases hi : i < 32
  · rw [if_pos hi, over_get (by omega)]
    have e : i / 64 - 0 / 64 = 0 := by omega
    rw [e]
    by_cases hp : p 0 = true
    · rw [if_pos ⟨by omega, by omega, hp⟩, if_pos hp]
      simp [show i < rec.length by omega]
    · rw [if_neg (by rintro ⟨_, _, h⟩; exact hp h), if_neg hp, List.getElem?_take, if_pos hi]
      simp [show i < b.length by omega]
  · rw [if_neg hi]
    split
    · rw [List.getElem?_eq_none (by omega)]
    · rw [List.getElem?_eq_none (by simp; omega)]
end Go.S
namespace Go.Proofs.Ytmcejfmjclngaaa
open Go Go.Eng
/-- Whose record lies behind the second Save. -/
def lastsR (x y x' y' : S.Half) (arm : Int) (ks : List Bool) : S.Half × S.Half := if (x'.right && y'.right) && (arm != 0 || ks.getD 0 false) then (x', y') else (x, y)
def lastsE (x' y' : S.Half) (arm : Int) : Int := if (x'.right && y'.right) = false then 12 else if arm = 0 then 42 else 0
theorem lasts_t1_s {w0 w : World} {gd g1 g2 : Nat} {L : Lay} {b : List UInt8} {c n arm : Int} {p3 : Sl} {ks : List Bool} {x y x' y' : S.Half} {K : Bool → World → Prop} (e0 : Ext w0 w) (hd : DriveAt w gd L (miscD b (-1) [] false c n)) (hb : b.length = 64) (hin : ∀ k, L.inD gd k → w0.heap.size ≤ k) (hgd : w0.heap.size ≤ gd)
    (v1 : Var w0 g1 (rls x y)) (v2 : Var w0 g2 (rls x' y')) (harm : S.I64 arm) (hks : Rd w0 p3 1 (ks.map Value.bool)) (hkl : ks.length ≤ 20) (hK : ∀ w', Ext w0 w' → K true w') :
    f9_t1 false K (at_ g1 0) (some (at_ gd 0)) arm p3 (at_ g2 0) w := by
  unfold f9_t1
  have hpl : p3.len = ks.length := by have := hks.len; simp at this; omega
  have hg1 := v1.lt
  have hg2 := v2.lt
  refine cond_i (fun h => by cases h) (fun _ => ?_)
  refine ldR_i (v1.ext e0) ?_
  refine save_s hd fun w1 f1 d1 => ?_
  have E1 : Ext w0 w1 := Ext.own e0 f1 hin
  refine ldR_i (v1.ext E1) ?_
  refine model_s fun w2 e2 => ?_
  refine refRightR_s fun w3 e3 => ?_
  have E3 := (E1.trans e2).trans e3
  have d3 := (d1.ext e2).ext e3
  unfold saved at d3 ⊢
  cases hr : (x.right && y.right) with
  | false =>
    refine cond_i (fun _ => ?_) (fun h => by cases h)
    exact hK w3 E3
  | true =>
    rw [hr, if_neg (by exact Bool.noConfusion), S.write_one (by rw [hb, S.recB_len]; decide) (by decide)] at d3
    rw [if_neg (by exact Bool.noConfusion), S.write_one (by rw [hb, S.recB_len]; decide) (by decide)]
    simp only at d3 ⊢
    have hb2 : (S.over b (S.recB x y) (0 : Int).toNat fun _ => true).length = 64 := by rw [S.over_length]; exact hb
    have ht2 : (S.over b (S.recB x y) (0 : Int).toNat fun _ => true).take 32 = S.recB x y := by
      rw [show (0 : Int).toNat = 0 by rfl, S.over_take hb (S.recB_len _ _)]; rfl
    generalize S.over b (S.recB x y) (0 : Int).toNat (fun _ => true) = b2 at d3 hb2 ht2
    refine cond_i (fun h => by cases h) (fun _ => ?_)
    refine dArm_s (ks := ks) d3 harm (hks.ext E3) (by omega) fun w4 L4 f4 d4 hin4 _ => ?_
    rw [S.arm_one] at d4
    have E4 : Ext w0 w4 := Fr.own1 E3 f4 hgd
    have hin4' : ∀ k, L4.inD gd k → w0.heap.size ≤ k := fun k hk => by
      rcases hin4 k hk with h | h
      · exact hin k h
      · have := E3.size; omega
    refine ldR_i (v2.ext E4) ?_
    refine save_s d4 fun w5 f5 d5 => ?_
    have E5 : Ext w0 w5 := Ext.own E4 f5 hin4'
    -- what lies there now
    have key : ∃ (b3 : List UInt8) (left : Int) (dn : Bool), saved x' y' (miscD b2 (max arm (-1)) ks false c n) = (lastsE x' y' arm, miscD b3 left ks dn c n) ∧ b3.length = 64 ∧ b3.take 32 = S.recB (lastsR x y x' y' arm ks).1 (lastsR x y x' y' arm ks).2 ∧ (lastsR x y x' y' arm ks).1.right = true ∧ (lastsR x y x' y' arm ks).2.right = true := by
      have hxy : x.right = true ∧ y.right = true := by simpa using hr
      unfold saved lastsE lastsR
      cases hr' : (x'.right && y'.right) with
      | false => exact ⟨b2, _, false, rfl, hb2, by simpa using ht2, by simpa using hxy.1, by simpa using hxy.2⟩
      | true =>
        have hxy' : x'.right = true ∧ y'.right = true := by simpa using hr'
        rw [if_neg (by exact Bool.noConfusion), if_neg (by exact Bool.noConfusion)]
        by_cases ha : arm = 0
        · subst ha
          rw [show max (0 : Int) (-1) = 0 by decide, S.write_one0 (by rw [hb2, S.recB_len]; decide)]
          refine ⟨_, _, _, rfl, by rw [S.over_length]; exact hb2, ?_⟩
          rw [show (0 : Int).toNat = 0 by rfl, S.over_take hb2 (S.recB_len _ _)]
          cases hk0 : ks.getD 0 false with
          | true => simp [hxy'.1, hxy'.2]
          | false => simp [hxy.1, hxy.2, ht2]
        · have hm : max arm (-1) ≠ 0 := by omega
          rw [if_neg ha, S.write_one (by rw [hb2, S.recB_len]; decide) hm]
          refine ⟨_, _, _, rfl, by rw [S.over_length]; exact hb2, ?_⟩
          rw [show (0 : Int).toNat = 0 by rfl, S.over_take hb2 (S.recB_len _ _)]
          simp [ha, hxy'.1, hxy'.2]
    obtain ⟨b3, left, dn, hsv, hb3, ht3, hr3, hr4⟩ := key
    rw [hsv] at d5 ⊢
    simp only at d5 ⊢
    refine dBoot_s d5 fun w6 f6 d6 => ?_
    rw [S.boot_one] at d6
    have E6 : Ext w0 w6 := Fr.own1 E5 f6 hgd
    have hrd := S.round hr3 hr4
    rw [← ht3] at hrd
    refine load_s d6 hb3 fun w7 c7 n7 u v r f7 d7 hcase => ?_
    have E7 : Ext w0 w7 := Fr.own1 E6 f7 hgd
    rcases hcase with ⟨_, huv, hrf⟩ | ⟨hne, _⟩
    rotate_left
    · exact absurd hrd.1 hne
    rw [hrd.2] at huv
    obtain ⟨rfl, rfl⟩ := Prod.mk.inj huv
    subst hrf
    refine alloc_i fun g8 w8 e8 hg8 v8 => ?_
    refine stR_i v8 rfl fun w9 f9 v9 => ?_
    have E9 := E7.trans (Fr.own1 e8 f9 hg8)
    have v9 : Var w9 g8 (rls (lastsR x y x' y' arm ks).1 (lastsR x y x' y' arm ks).2) := v9
    refine cond_i (fun h => by cases h) (fun _ => ?_)
    refine ldR_i (v2.ext E9) ?_
    refine model_s fun w10 e10 => ?_
    refine refRightR_s fun w11 e11 => ?_
    have E11 := (E9.trans e10).trans e11
    have v11 := (v9.ext e10).ext e11
    have V1 := v1.ext E11
    have V2 := v2.ext E11
    cases hr' : (x'.right && y'.right) with
    | false =>
      have hL : lastsR x y x' y' arm ks = (x, y) := by unfold lastsR; rw [hr']; rfl
      have hE : lastsE x' y' arm = 12 := by unfold lastsE; rw [hr']; rfl
      rw [hL] at v11
      rw [hE]
      refine cond_i (fun _ => ?_) (fun h => by cases h)
      refine join_i (fun b w' => b = true ∧ w11 = w') (fun b w' ⟨hb, he⟩ => by subst hb; subst he; exact hK _ E11) fun J hJ => ?_
      refine cond_i (fun _ => ?_) (fun h => by cases h)
      refine ldR_i v11 ?_
      refine ldR_i V1 ?_
      refine eqA_i (rls x y) (rls x y) (kR _ _) (kR _ _) ?_
      rw [eqR_refl]
      exact hJ _ _ ⟨rfl, rfl⟩
    | true =>
      refine cond_i (fun h => by cases h) (fun _ => ?_)
      refine join_i (fun b w' => b = (decide (arm = 0) && ks.getD 0 false) ∧ w11 = w') ?_ ?_
      rotate_left
      · intro J hJ
        refine cond_i (fun h => ?_) (fun h => ?_)
        · have h2 : arm = 0 ∧ 0 < ks.length := by simp at h; omega
          refine elem_i (l := .bool) (x := ks.getD 0 false) (hks.ext E11) (by omega) (by omega) (by simp [h2.2, Lf.enc]) ?_
          exact hJ _ _ ⟨by rw [h2.1]; simp, rfl⟩
        · refine hJ _ _ ⟨?_, rfl⟩
          symm
          rw [Bool.eq_false_iff]
          intro hh
          rw [Bool.and_eq_true, decide_eq_true_eq] at hh
          rw [Bool.eq_false_iff] at h
          apply h
          have hk0 : 0 < ks.length := by
            cases ks with
            | nil => simp at hh
            | cons a l => simp
          simp [hh.1]; omega
      rintro b w' ⟨rfl, rfl⟩
      refine cond_i (fun h => ?_) (fun h => ?_)
      · rw [Bool.and_eq_true, decide_eq_true_eq] at h
        have hL : lastsR x y x' y' arm ks = (x', y') := by unfold lastsR; rw [hr', h.2]; simp
        have hE : lastsE x' y' arm = 42 := by unfold lastsE; rw [hr', if_neg (by exact Bool.noConfusion), if_pos h.1]
        rw [hL] at v11
        rw [hE]
        refine join_i (fun b w' => b = true ∧ w11 = w') (fun b w' ⟨hb, he⟩ => by subst hb; subst he; exact hK _ E11) fun J hJ => ?_
        refine cond_i (fun _ => ?_) (fun h => by cases h)
        refine ldR_i v11 ?_
        refine ldR_i V2 ?_
        refine eqA_i (rls x' y') (rls x' y') (kR _ _) (kR _ _) ?_
        rw [eqR_refl]
        exact hJ _ _ ⟨rfl, rfl⟩
      · refine cond_i (fun h0 => ?_) (fun h0 => ?_)
        · have ha : arm = 0 := by simpa using h0
          have hk0 : ks.getD 0 false = false := by
            rw [ha] at h; simpa using h
          have hL : lastsR x y x' y' arm ks = (x, y) := by unfold lastsR; rw [hk0, ha]; simp
          have hE : lastsE x' y' arm = 42 := by unfold lastsE; rw [hr', if_neg (by exact Bool.noConfusion), if_pos ha]
          rw [hL] at v11
          rw [hE]
          refine join_i (fun b w' => b = true ∧ w11 = w') (fun b w' ⟨hb, he⟩ => by subst hb; subst he; exact hK _ E11) fun J hJ => ?_
          refine cond_i (fun _ => ?_) (fun h => by cases h)
          refine ldR_i v11 ?_
          refine ldR_i V1 ?_
          refine eqA_i (rls x y) (rls x y) (kR _ _) (kR _ _) ?_
          rw [eqR_refl]
          exact hJ _ _ ⟨rfl, rfl⟩
        · have ha : arm ≠ 0 := by simpa using h0
          have hL : lastsR x y x' y' arm ks = (x', y') := by unfold lastsR; rw [hr']; simp [ha]
          have hE : lastsE x' y' arm = 0 := by unfold lastsE; rw [hr', if_neg (by exact Bool.noConfusion), if_neg ha]
          rw [hL] at v11
          rw [hE]
          refine join_i (fun b w' => b = true ∧ w11 = w') (fun b w' ⟨hb, he⟩ => by subst hb; subst he; exact hK _ E11) fun J hJ => ?_
          refine cond_i (fun _ => ?_) (fun h => by cases h)
          refine ldR_i v11 ?_
          refine ldR_i V2 ?_
          refine eqA_i (rls x' y') (rls x' y') (kR _ _) (kR _ _) ?_
          rw [eqR_refl]
          exact hJ _ _ ⟨rfl, rfl⟩

theorem RecordLasts_s {x y x' y' : S.Half} {arm : Int} {p3 p4 : Sl} {ks : List Bool} {junk : List UInt8} {K : Bool → World → Prop} {w : World} (ha : okH x) (hb : okH y) (ha' : okH x') (hb' : okH y') (harm : S.I64 arm) (hks : Rd w p3 1 (ks.map Value.bool)) (hj : Bts w p4 junk) (hK : ∀ w', Ext w w' → K true w') :
    callS Try.prog 9 #[.agg (rls x y).toArray, .agg (rls x' y').toArray, .int .i64 arm, .slice p3.a p3.len p3.cap, .slice p4.a p4.len p4.cap] [.one .bool] K w := by
  refine f9_ok ?_
  unfold f9
  have hpl : p3.len = ks.length := by have := hks.len; simp at this; omega
  have hjl := Bts.len hj
  refine box_i fun g1 w1 e1 hg1 v1 => ?_
  refine box_i fun g2 w2 e2 hg2 v2 => ?_
  refine anchor_s fun w3 e3 => ?_
  have E3 := (e1.trans e2).trans e3
  refine cond_i (fun h => by cases h) (fun _ => ?_)
  refine cond_i (fun _ => hK w3 E3) (fun hg => ?_)
  simp only [Bool.or_eq_false_iff, decide_eq_false_iff_not] at hg
  have V1 : Var w3 g1 (rls x y) := (v1.ext e2).ext e3
  have V2 : Var w3 g2 (rls x' y') := v2.ext e3
  refine newOne_s (name := [109, 105, 115, 99]) rfl ⟨by omega, by omega⟩ (by decide) (fun w' e h => absurd (by decide +kernel) h) fun gd L w4 e4 _ hgd hin d4 => ?_
  have own : ∀ {a b : World}, Ext w3 a → Fr (L.inD gd) a b → Ext w3 b := fun h1 h2 => Ext.own h1 h2 hin
  have own1 : ∀ {a b : World}, Ext w3 a → Fr (fun k => k = gd) a b → Ext w3 b := fun h1 h2 => Fr.own1 h1 h2 hgd
  refine join_i (fun b w' => b = false ∧ w4 = w') ?_ ?_
  rotate_left
  · intro J hJ
    refine cond_i (fun h => by cases h) (fun _ => ?_)
    exact ptrEq_i (hJ _ _ ⟨rfl, rfl⟩)
  rintro b w' ⟨rfl, rfl⟩
  refine cond_i (fun h => by cases h) (fun _ => ?_)
  have hz : (List.replicate (64 : Int).toNat (0 : UInt8)).length = 64 := by rw [List.length_replicate]; rfl
  have hj3 := hj.ext E3
  refine dWrite_s (name := ByteArray.mk #[109, 105, 115, 99]) d4 ⟨by omega, by omega⟩ (hj3.ext e4) (by omega) (fun hne a ha hk => by have := rd_lt hj3 (by simpa using hne) ha; have := hin _ hk; omega) fun w5 f5 d5 => ?_
  rw [misc_toList, S.write_one (by rw [hz, S.within_iff]; omega) (by decide)] at d5
  simp only at d5
  have E5 := own e4 f5
  have hb1 : (S.over (List.replicate (64 : Int).toNat 0) junk (0 : Int).toNat fun _ => true).length = 64 := by rw [S.over_length]; exact hz
  generalize S.over (List.replicate (64 : Int).toNat 0) junk (0 : Int).toNat (fun _ => true) = b1 at d5 hb1
  refine dRead_s (name := ByteArray.mk #[109, 105, 115, 99]) d5 ⟨by omega, by omega⟩ ⟨by omega, by omega⟩ fun u w6 f6 d6 o6 => ?_
  rw [misc_toList, S.read_one (by rw [hb1]; decide), S.badIn_none] at d6 o6
  simp only [Bool.false_eq_true, if_false] at d6 o6
  rw [show (0 : Int).toNat = 0 by rfl, List.drop_zero, show (32 : Int).toNat = 32 by rfl] at o6
  have E6 := own1 E5 f6
  have hu : ∀ k, u.inB k → ¬ L.inD gd k := fun k hk h => by have := (o6.inB hk).1; have := d5.lt h; omega
  refine load_s d6 hb1 fun w7 c7 n7 r1 r2 rs f7 d7 hcase => ?_
  have E7 := own1 E6 f7
  have o7 := o6.fr f7 fun a ha h => hu _ ⟨a, ha, rfl⟩ (.inl h)
  refine alloc_i fun g8 w8 e8 hg8 v8 => ?_
  refine stR_i v8 rfl fun w9 f9 v9 => ?_
  have v9 : Var w9 g8 (rls r1 r2) := v9
  have e79 := Fr.own1 e8 f9 hg8
  refine refParse_s (o7.rd.ext e79) (by rw [List.length_take]; omega) fun w10 e10 => ?_
  refine alloc_i fun g11 w11 e11 hg11 v11 => ?_
  refine stR_i v11 rfl fun w12 f12 v12 => ?_
  have e712 := (e79.trans e10).trans (Fr.own1 e11 f12 hg11)
  have v812 := (v9.ext e10).ext (Fr.own1 e11 f12 hg11)
  have d13 := Ext.drew w12
  have E12 := E7.trans e712
  have T : ∀ w', Ext w12 w' → f9_t1 false K (at_ g1 0) (some (at_ gd 0)) arm p3 (at_ g2 0) w' := fun w' e =>
    lasts_t1_s (E12.trans e) ((d7.ext e712).ext e) hb1 hin hgd V1 V2 harm (hks.ext E3) (by omega) fun w'' e' => hK _ (E3.trans e')
  refine ⟨fun x => Ext w12 x, d13, ?_⟩
  refine cond_i (fun h => by cases h) (fun _ => ?_)
  rcases hcase with ⟨hz1, huv, rfl⟩ | ⟨hz1, rfl, rfl, rfl⟩
  · rw [hz1]
    refine cond_i (fun h => by cases h) (fun _ => ?_)
    refine cond_i (fun _ => ?_) (fun h => by cases h)
    refine ldRQ_i (fun x hx => v812.ext hx) ?_
    refine ldRQ_i (a := (S.parse (b1.take 32)).1) (b := (S.parse (b1.take 32)).2) (fun x hx => Var.ext v12 hx) ?_
    refine model_s fun w14 e14 => ?_
    refine more_i (d13.trans e14) ?_
    rw [← huv]
    refine neAQ_i (rls r1 r2) (rls r1 r2) (kR _ _) (kR _ _) ?_
    rw [eqR_refl]
    refine cond_i (fun h => by cases h) (fun _ => ?_)
    refine cond_i (fun h => by cases h) (fun _ => ?_)
    exact T _ (d13.trans e14)
  · have hne : (S.parseErr (b1.take 32) != 0) = true := by simpa using hz1
    have hne2 : (S.parseErr (b1.take 32) == 0) = false := by simpa using hz1
    rw [hne, hne2]
    refine cond_i (fun h => by cases h) (fun _ => ?_)
    refine cond_i (fun h => by cases h) (fun _ => ?_)
    refine cond_i (fun _ => ?_) (fun h => by cases h)
    refine ldRQ_i (fun x hx => v812.ext hx) ?_
    refine first_s fun w14 e14 => ?_
    refine more_i (d13.trans e14) ?_
    refine neAQ_i (rls ⟨15, 7, false⟩ ⟨14, 7, false⟩) (rls ⟨15, 7, false⟩ ⟨14, 7, false⟩) (kR _ _) (kR _ _) ?_
    rw [eqR_refl]
    exact T _ (d13.trans e14)
end Go.Proofs.Ytmcejfmjclngaaa
