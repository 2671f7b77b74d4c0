/- Layer 9 (grove): the law GroveChecks. -/
import Derived.Test.YtbmcbjmpogbmeaaDoorLaw09b
import Derived.Test.YtbmcbjmpogbmeaaDoorGrv09d
set_option linter.unusedSimpArgs false
set_option linter.unusedVariables false
namespace Go.Proofs.YtbmcbjmpogbmeaaDoor
open Go Go.Eng
theorem chk_want {a i : Int} {salt above below : List UInt8} : chk a salt above i below = (if (S.dsz a > 0 ∧ salt.length ≤ 64) ∧ i ≥ 0 ∧ S.dsz a ≤ above.length ∧ i ≤ above.length - S.dsz a then (above.drop i.toNat).take (S.dsz a).toNat == S.dg a salt below else false) := by
  have hz := dsz_cases a
  have hcut : S.cut above i (S.dsz a) = if 0 ≤ i ∧ S.dsz a ≤ above.length ∧ i ≤ above.length - S.dsz a then ((above.drop i.toNat).take (S.dsz a).toNat, 0) else ([], 10) := by
    unfold S.cut
    by_cases h : S.within i (S.dsz a) above.length = true
    · rw [h, if_neg (by simp)]
      rw [S.within_iff] at h
      rw [if_pos (by omega)]
    · have h' : S.within i (S.dsz a) above.length = false := by simpa using h
      rw [if_pos h']
      rw [S.within_iff] at h
      rw [if_neg (by omega)]
  unfold chk digErr
  rw [hcut]
  by_cases h1 : S.dsz a = 0
  · rw [if_pos h1, if_neg (c := (S.dsz a > 0 ∧ salt.length ≤ 64) ∧ _) (by omega)]; simp
  · by_cases h2 : salt.length > 64
    · rw [if_neg h1, if_pos h2, if_neg (c := (S.dsz a > 0 ∧ salt.length ≤ 64) ∧ _) (by omega)]; simp
    · rw [if_neg h1, if_neg h2]
      by_cases h3 : 0 ≤ i ∧ S.dsz a ≤ above.length ∧ i ≤ above.length - S.dsz a
      · rw [if_pos h3, if_pos (by omega)]
        simp only [beq_self_eq_true, Bool.true_and]
        exact BEq.comm
      · rw [if_neg h3, if_neg (c := (S.dsz a > 0 ∧ salt.length ≤ 64) ∧ _) (by omega)]; simp
theorem GroveChecks_s {y : SM} {p1 p3 : Sl} {i : Int} {above below : List UInt8} {K : Bool → World → Prop} {w : World} (hy : y.Ok w) (ha : Bts w p1 above) (hi : -9223372036854775808 ≤ i ∧ i ≤ 9223372036854775807) (hb : Bts w p3 below) (ht1 : Tabs w) (ht2 : L.Tabs w) (hK : ∀ w', Ext w w' → K true w') :
    callS Tryd.prog 7 #[.agg y.cells.toArray, .slice p1.a p1.len p1.cap, .int .i64 i, .slice p3.a p3.len p3.cap] [.one .bool] K w := by
  refine f7_ok (p0_0 := y.alg) (p0_1 := y.blk) (p0_2 := y.salt.1) (p0_3 := y.data.1) ?_
  unfold f7
  have ht : Tabs9 w := ⟨ht1, ht2⟩
  have hsl := Bts.len hy.salt
  have hal := Bts.len ha
  have hbl := Bts.len hb
  have hz := dsz_cases y.alg
  refine box_i fun g w1 e1 hg v1 => ?_
  have v1 : Var w1 g y.cells := v1
  refine anchor9_s (ht.ext e1) fun w2 e2 => ?_
  refine cond_i (fun h => by cases h) (fun _ => ?_)
  have E2 := e1.trans e2
  have v2 := v1.ext e2
  refine ld1_i (l := .slc) (o := 2) y.salt.1 v2 rfl ?_
  refine cond_i (fun _ => hK w2 E2) (fun hc => ?_)
  simp only [Bool.or_eq_false_iff, decide_eq_false_iff_not] at hc
  obtain ⟨⟨c1, c2⟩, c3⟩ := hc
  refine ld1_i (l := .int .i64) (o := 0) y.alg v2 rfl ?_
  refine rdsz_s ?_
  refine join_i (fun c w' => c = (decide (S.dsz y.alg > 0) && decide (y.salt.2.length ≤ 64)) ∧ w2 = w') ?_ fun J hJ => ?_
  rotate_left
  · refine cond_i (fun h => ?_) (fun h => hJ _ _ ⟨by rw [h]; rfl, rfl⟩)
    refine ld1_i (l := .slc) (o := 2) y.salt.1 v2 rfl ?_
    refine hJ _ _ ⟨?_, rfl⟩
    rw [h, Bool.true_and]
    exact decide_eq_decide.2 (by omega)
  rintro c w' ⟨rfl, rfl⟩
  have hwr : IntKind.wrap .i64 ((p1.len : Int) - S.dsz y.alg) = (above.length : Int) - S.dsz y.alg := by rw [hal]; exact wrap_i64 (by omega) (by omega)
  rw [hwr]
  refine join_i (fun c w' => c = chk y.alg y.salt.2 above i below ∧ Ext w2 w') ?_ fun J hJ => ?_
  · rintro c w3 ⟨rfl, e3⟩
    have E3 := E2.trans e3
    have v3 := v2.ext e3
    refine ld1_i (l := .int .i64) (o := 0) y.alg v3 rfl (ld1_i (l := .slc) (o := 2) y.salt.1 v3 rfl ?_)
    refine check_s (ht.ext E3) (hy.salt.ext E3) (ha.ext E3) (hb.ext E3) (by omega) (by omega) hi fun w4 e4 => ?_
    rw [beq_self_eq_true]
    exact hK w4 (E3.trans e4)
  · have hcw := chk_want (a := y.alg) (i := i) (salt := y.salt.2) (above := above) (below := below)
    refine cond_i (fun h => ?_) (fun h => ?_)
    · simp only [Bool.and_eq_true, decide_eq_true_eq] at h
      obtain ⟨⟨⟨⟨h1, h2⟩, h3⟩, h4⟩, h5⟩ := h
      rw [if_pos (by omega)] at hcw
      have hd := Ext.drew w2
      refine ⟨fun x => Ext w2 x, hd, ?_⟩
      have hca := ha.cap
      have hw2 : IntKind.wrap .i64 (i + S.dsz y.alg) = i + S.dsz y.alg := wrap_i64 (by omega) (by omega)
      rw [hw2]
      refine sl2Q_i h3 (by omega) (by omega) ?_
      have hcb : ∀ x, Ext w2 x → Bts x (p1.cut 1 i.toNat (i + S.dsz y.alg).toNat) ((above.drop i.toNat).take (S.dsz y.alg).toNat) := fun x hx => by
        have := Bts.cut (ha.ext (E2.trans hx)) (l := i.toNat) (hi := (i + S.dsz y.alg).toNat) (by omega) (by omega)
        rw [show (i + S.dsz y.alg).toNat - i.toNat = (S.dsz y.alg).toNat by omega] at this
        exact this
      refine b2sQ_i hcb ?_
      refine ld1Q_i (l := .int .i64) (o := 0) y.alg (fun x hx => v2.ext hx) rfl (ld1Q_i (l := .slc) (o := 2) y.salt.1 (fun x hx => v2.ext hx) rfl ?_)
      refine rdig_s (hy.salt.ext (E2.trans hd)) (hb.ext (E2.trans hd)) (by omega) (by omega) fun r3 w3 e3 o3 => ?_
      have e23 := hd.trans e3
      refine more2_i (fun x => Ext w3 x) (Fr.refl _ _) (fun x hx => e23.trans hx) ?_
      refine b2sQ_i (fun x hx => (Own.ext o3 hx).rd) ?_
      exact hJ _ _ ⟨by rw [hcw, str_toList, str_toList], e23⟩
    · refine hJ _ _ ⟨?_, Fr.refl _ _⟩
      rw [h, hcw, if_neg]
      rintro ⟨⟨h1, h2⟩, h3, h4, h5⟩
      have hd : decide (S.dsz y.alg ≤ (p1.len : Int)) = true := decide_eq_true (by omega)
      rw [decide_eq_true h1, decide_eq_true h2, decide_eq_true h3, hd, decide_eq_true h5] at h
      cases h
end Go.Proofs.YtbmcbjmpogbmeaaDoor
