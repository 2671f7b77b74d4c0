/- The laws of layer 16 over the contracts: swaps, picks; how a record is read of an argument. -/
import Derived.Test.YtmcejfmjclngaaaLaw16
import Derived.Test.YtmcejfmjclngaaaRowLib2
set_option linter.unusedSimpArgs false
set_option linter.unusedVariables false
namespace Go.Proofs.Ytmcejfmjclngaaa
open Go Go.Eng

def okH (h : S.Half) : Prop := (-9223372036854775808 ≤ h.p ∧ h.p ≤ 9223372036854775807) ∧ (-9223372036854775808 ≤ h.t ∧ h.t ≤ 9223372036854775807)
theorem open_Half {cs : List Value} (h : KindsW lH cs) : ∃ y : S.Half, cs = hls y ∧ okH y := by
  rcases cs with _ | ⟨c0, _ | ⟨c1, _ | ⟨c2, _ | ⟨c3, cs⟩⟩⟩⟩
  · exact h.elim
  · exact h.2.elim
  · exact h.2.2.elim
  · obtain ⟨⟨x, rfl, hx⟩, ⟨y, rfl, hy⟩, ⟨z, rfl⟩, _⟩ := h
    exact ⟨⟨x, y, z⟩, rfl, wf_i64 hx, wf_i64 hy⟩
  · exact h.2.2.2.elim
theorem open_Record {cs : List Value} (h : KindsW lR cs) : ∃ y : S.Half × S.Half, cs = rls y.1 y.2 ∧ (okH y.1 ∧ okH y.2) := by
  have hl := h.length
  have h1 : KindsW lH (cs.take 3) ∧ KindsW lH (cs.drop 3) := by
    rcases cs with _ | ⟨c0, _ | ⟨c1, _ | ⟨c2, cs⟩⟩⟩
    · simp at hl
    · simp at hl
    · simp at hl
    · exact ⟨⟨h.1, h.2.1, h.2.2.1, trivial⟩, h.2.2.2⟩
  obtain ⟨y, hy, oy⟩ := open_Half h1.1
  obtain ⟨z, hz, oz⟩ := open_Half h1.2
  refine ⟨(y, z), ?_, oy, oz⟩
  rw [← List.take_append_drop 3 cs, hy, hz]; rfl

theorem kH (h : S.Half) : Kinds lH (hls h) := ⟨⟨h.p, rfl⟩, ⟨h.t, rfl⟩, ⟨h.g, rfl⟩, trivial⟩
theorem kR (a b : S.Half) : Kinds lR (rls a b) := ⟨⟨a.p, rfl⟩, ⟨a.t, rfl⟩, ⟨a.g, rfl⟩, ⟨b.p, rfl⟩, ⟨b.t, rfl⟩, ⟨b.g, rfl⟩, trivial⟩
theorem eqH_refl (h : S.Half) : eqCells (hls h) (hls h) = true := by simp [eqCells, valueEq]
theorem eqR_refl (a b : S.Half) : eqCells (rls a b) (rls a b) = true := by simp [eqCells, valueEq]
theorem eqH_iff {h h' : S.Half} : eqCells (hls h) (hls h') = true ↔ h = h' := by
  cases h; cases h'; simp [eqCells, valueEq]
theorem eqR_iff {a b a' b' : S.Half} : eqCells (rls a b) (rls a' b') = true ↔ a = a' ∧ b = b' := by
  cases a; cases b; cases a'; cases b'; simp [eqCells, valueEq, and_assoc]

theorem swaps (a b : S.Half) : (S.pick a b).2 = (S.pick b a).2 ∧ ((S.pick a b).2 = false → (S.pick a b).1 = 0 ∧ (S.pick b a).1 = 0) ∧
    ((S.pick a b).2 = true → (a.boot = true ∧ b.boot = true ∧ a.p = b.p → (S.pick a b).1 = 0 ∧ (S.pick b a).1 = 0) ∧
      (¬ (a.boot = true ∧ b.boot = true ∧ a.p = b.p) → (S.pick a b).1 ≠ (S.pick b a).1 ∧ S.half a b (S.pick a b).1 = S.half b a (S.pick b a).1 ∧ (S.half a b (S.pick a b).1).boot = true)) := by
  unfold S.pick S.half
  cases ha : a.boot <;> cases hb : b.boot <;> simp [ha, hb]
  rcases Int.lt_trichotomy a.p b.p with h | h | h
  · have h1 : ¬ b.p < a.p := by omega
    have h2 : ¬ a.p = b.p := by omega
    simp [h, h1, h2, hb]
  · have h1 : ¬ b.p < a.p := by omega
    have h2 : ¬ a.p < b.p := by omega
    simp [h, h1, h2]
  · have h1 : ¬ a.p < b.p := by omega
    have h2 : ¬ a.p = b.p := by omega
    simp [h, h1, h2, ha]

theorem RecordSwaps_s {a b : S.Half} {K : Bool → World → Prop} {w : World} (ha : okH a) (hb : okH b) (hK : ∀ w', Ext w w' → K true w') :
    callS Try.prog 4 #[.agg #[.int .i64 a.p, .int .i64 a.t, .bool a.g, .int .i64 b.p, .int .i64 b.t, .bool b.g]] [.one .bool] K w := by
  refine f4_ok ?_
  unfold f4
  refine box_i fun g w1 e1 hg v1 => ?_
  refine anchor_s fun w2 e2 => ?_
  have v2 := v1.ext e2
  obtain ⟨s1, s2, s3⟩ := swaps a b
  refine cond_i (fun h => by cases h) (fun _ => ?_)
  refine ldR_i (a := a) (b := b) v2 ?_
  refine pick_s fun w3 e3 => ?_
  have e13 := e2.trans e3
  refine ldH_i b (v1.ext e13) rfl ?_
  refine ldH_i a (v1.ext e13) rfl ?_
  refine pick_s (a := b) (b := a) fun w4 e4 => ?_
  have e14 := e13.trans e4
  rw [← s1]
  refine cond_i (fun h => by simp at h) (fun _ => ?_)
  refine cond_i (fun h => ?_) (fun h => ?_)
  · obtain ⟨z1, z2⟩ := s2 (by simpa using h)
    rw [z1, z2]
    exact hK _ (e1.trans e14)
  · obtain ⟨t1, t2⟩ := s3 (by simpa using h)
    refine ldH_i a (v1.ext e14) rfl ?_
    refine boot_s fun w5 e5 => ?_
    have e15 := e14.trans e5
    refine join_i (fun c w' => Ext w1 w' ∧ c = (a.boot && b.boot)) ?_ fun J hJ => ?_
    · rintro c w' ⟨e', rfl⟩
      refine join_i (fun c w'' => Ext w1 w'' ∧ c = (a.boot && b.boot && (a.p == b.p))) ?_ fun J2 hJ2 => ?_
      · rintro c w'' ⟨e'', rfl⟩
        refine cond_i (fun h => ?_) (fun h => ?_)
        · obtain ⟨z1, z2⟩ := t1 (by simpa [and_assoc] using h)
          rw [z1, z2]
          exact hK _ (e1.trans e'')
        · obtain ⟨z1, z2, z3⟩ := t2 (by intro ⟨h1, h2, h3⟩; simp [h1, h2, h3] at h)
          refine ⟨fun x => Ext w1 x, e''.trans (Ext.drew _), ?_⟩
          refine cond_i (fun _ => ?_) (fun h => absurd h (by simpa using z1))
          refine ldRQ_i (a := a) (b := b) (fun x hx => v1.ext hx) ?_
          refine ldHQ_i (rls a b) b (fun x hx => v1.ext hx) rfl ?_
          refine ldHQ_i (rls a b) a (fun x hx => v1.ext hx) rfl ?_
          refine half_s fun w6 e6 => ?_
          have e16 := (e''.trans (Ext.drew _)).trans e6
          refine more_i e16 ?_
          refine half_s (a := b) (b := a) fun w7 e7 => ?_
          have e17 := e16.trans e7
          refine more_i e17 ?_
          rw [← z2]
          refine eqAQ_i (hls (S.half a b (S.pick a b).1)) (hls (S.half a b (S.pick a b).1)) (kH _) (kH _) ?_
          rw [eqH_refl]
          refine cond_i (fun _ => ?_) (fun h => by cases h)
          refine ldRQ_i (a := a) (b := b) (fun x hx => v1.ext hx) ?_
          refine half_s fun w8 e8 => ?_
          refine boot_s fun w9 e9 => ?_
          rw [z3]
          exact hK _ (((e1.trans e17).trans e8).trans e9)
      · refine cond_i (fun h => ?_) (fun h => hJ2 _ _ ⟨e', by simp [h]⟩)
        refine ld1_i a.p (v1.ext e') rfl ?_
        refine ld1_i b.p (v1.ext e') rfl ?_
        exact hJ2 _ _ ⟨e', by simp [h]⟩
    · refine cond_i (fun h => ?_) (fun h => hJ _ _ ⟨e15, by simp [h]⟩)
      refine ldH_i b (v1.ext e15) rfl ?_
      refine boot_s fun w6 e6 => ?_
      exact hJ _ _ ⟨e15.trans e6, by simp [h]⟩

theorem RecordPicks_s {a b h : S.Half} {slot : Int} {K : Bool → World → Prop} {w : World} (ha : okH a) (hb : okH b) (hs : -9223372036854775808 ≤ slot ∧ slot ≤ 9223372036854775807) (hh : okH h) (hK : ∀ w', Ext w w' → K true w') :
    callS Try.prog 5 #[.agg #[.int .i64 a.p, .int .i64 a.t, .bool a.g, .int .i64 b.p, .int .i64 b.t, .bool b.g], .int .i64 slot, .agg #[.int .i64 h.p, .int .i64 h.t, .bool h.g]] [.one .bool] K w := by
  refine f5_ok ?_
  unfold f5
  refine box_i fun g w1 e1 hg v1 => ?_
  refine box_i fun g2 w2 e2 hg2 v2 => ?_
  refine anchor_s fun w3 e3 => ?_
  have v13 := v1.ext (e2.trans e3)
  have v23 := v2.ext e3
  have E3 := (e1.trans e2).trans e3
  obtain ⟨p1, p2, p3⟩ := S.pick_ref a b
  refine cond_i (fun h => by cases h) (fun _ => ?_)
  refine ldR_i (a := a) (b := b) v13 ?_
  refine pick_s fun w4 e4 => ?_
  refine ldR_i (a := a) (b := b) (v13.ext e4) ?_
  refine model_s fun w5 e5 => ?_
  refine refPick_s fun w6 e6 => ?_
  have E36 := (e4.trans e5).trans e6
  refine ⟨fun x => Ext w3 x, E36.trans (Ext.drew _), ?_⟩
  rw [← p1]
  refine cond_i (fun h => by simp at h) (fun _ => ?_)
  generalize hsl : (S.pick a b).1 = s at *
  generalize hok : (S.pick a b).2 = ok at *
  cases ok with
  | true =>
    refine cond_i (fun _ => ?_) (fun h => by cases h)
    rw [← p2 rfl]
    refine cond_i (fun h => by simp at h) (fun _ => ?_)
    refine cond_i (fun h => by cases h) (fun _ => ?_)
    refine ldHQ_i (rls a b) a (fun x hx => v13.ext hx) rfl ?_
    refine ldRQ_i (a := a) (b := b) (fun x hx => v13.ext hx) ?_
    refine boot_s fun w7 e7 => ?_
    have E37 := (E36.trans (Ext.drew _)).trans e7
    refine more_i E37 ?_
    refine model_s fun w8 e8 => ?_
    refine refBoot_s fun w9 e9 => ?_
    have E39 := (E37.trans e8).trans e9
    refine cond_i (fun h => by simp at h) (fun _ => ?_)
    refine ldR_i (a := a) (b := b) (v13.ext E39) ?_
    refine ldH_i h (v23.ext E39) rfl ?_
    refine with_s fun w10 e10 => ?_
    refine alloc_i fun g3 w11 e11 hg3 v3 => ?_
    have E311 := (E39.trans e10).trans e11
    have hsz := E39.size
    have hsz2 := e10.size
    refine stR_i v3 rfl fun w12 f12 v3' => ?_
    have E312 : Ext w3 w12 := Fr.own1 E311 f12 (by omega)
    have va := v13.ext E312
    have vh := v23.ext E312
    refine cond_i (fun h0 => ?_) (fun h0 => ?_)
    · have h0' : slot = 0 := by simpa using h0
      have hw : S.with a b slot h = (h, b) := by unfold S.with; rw [if_pos h0']
      rw [hw] at v3'
      refine ⟨fun x => Ext w12 x, Ext.drew _, ?_⟩
      refine ldRQ_i (a := a) (b := b) (fun x hx => va.ext hx) ?_
      refine ldHQ_i (rls a b) a (fun x hx => va.ext hx) rfl ?_
      refine half_s fun w13 e13 => ?_
      have E13 := (Ext.drew w12).trans e13
      refine more_i E13 ?_
      have hf : S.half a b 0 = a := rfl
      rw [hf]
      refine eqAQ_i (hls a) (hls a) (kH _) (kH _) ?_
      rw [eqH_refl]
      refine cond_i (fun _ => ?_) (fun h => by cases h)
      refine ldHQ_i (rls h b) h (fun x hx => v3'.ext hx) rfl ?_
      refine ldHQ_i (hls h) h (fun x hx => vh.ext hx) rfl ?_
      refine eqAQ_i (hls h) (hls h) (kH _) (kH _) ?_
      rw [eqH_refl]
      refine cond_i (fun _ => ?_) (fun h => by cases h)
      refine ldHQ_i (rls h b) b (fun x hx => v3'.ext hx) rfl ?_
      refine ldHQ_i (rls a b) b (fun x hx => va.ext hx) rfl ?_
      refine eqAQ_i (hls b) (hls b) (kH _) (kH _) ?_
      rw [eqH_refl]
      exact hK _ ((E3.trans E312).trans E13)
    · have h0' : ¬ slot = 0 := by simpa using h0
      refine cond_i (fun h1 => ?_) (fun h1 => ?_)
      · have h1' : slot = 1 := by simpa using h1
        have hw : S.with a b slot h = (a, h) := by unfold S.with; rw [if_neg h0', if_pos h1']
        rw [hw] at v3'
        refine ⟨fun x => Ext w12 x, Ext.drew _, ?_⟩
        refine ldRQ_i (a := a) (b := b) (fun x hx => va.ext hx) ?_
        refine ldHQ_i (rls a b) b (fun x hx => va.ext hx) rfl ?_
        refine half_s fun w13 e13 => ?_
        have E13 := (Ext.drew w12).trans e13
        refine more_i E13 ?_
        have hf : S.half a b 1 = b := rfl
        rw [hf]
        refine eqAQ_i (hls b) (hls b) (kH _) (kH _) ?_
        rw [eqH_refl]
        refine cond_i (fun _ => ?_) (fun h => by cases h)
        refine ldHQ_i (rls a h) h (fun x hx => v3'.ext hx) rfl ?_
        refine ldHQ_i (hls h) h (fun x hx => vh.ext hx) rfl ?_
        refine eqAQ_i (hls h) (hls h) (kH _) (kH _) ?_
        rw [eqH_refl]
        refine cond_i (fun _ => ?_) (fun h => by cases h)
        refine ldHQ_i (rls a h) a (fun x hx => v3'.ext hx) rfl ?_
        refine ldHQ_i (rls a b) a (fun x hx => va.ext hx) rfl ?_
        refine eqAQ_i (hls a) (hls a) (kH _) (kH _) ?_
        rw [eqH_refl]
        exact hK _ ((E3.trans E312).trans E13)
      · have h1' : ¬ slot = 1 := by simpa using h1
        have hw : S.with a b slot h = (a, b) := by unfold S.with; rw [if_neg h0', if_neg h1']
        have hf : S.half a b slot = S.Half.zero := by unfold S.half; rw [if_neg h0', if_neg h1']
        rw [hw] at v3'
        refine ldR_i (a := a) (b := b) va ?_
        refine half_s fun w13 e13 => ?_
        rw [hf]
        refine eqA_i (hls .zero) (hls .zero) (kH _) (kH _) ?_
        rw [eqH_refl]
        refine join_i (fun c x => x = w13 ∧ c = true) ?_ fun J hJ => ?_
        · rintro c x ⟨rfl, rfl⟩
          exact hK _ ((E3.trans E312).trans e13)
        · refine cond_i (fun _ => ?_) (fun h => by cases h)
          refine ldR_i (a := a) (b := b) (v3'.ext e13) ?_
          refine ldR_i (a := a) (b := b) (va.ext e13) ?_
          refine eqA_i (rls a b) (rls a b) (kR _ _) (kR _ _) ?_
          rw [eqR_refl]
          exact hJ _ _ ⟨rfl, rfl⟩
  | false =>
    refine cond_i (fun h => by cases h) (fun _ => ?_)
    refine cond_i (fun _ => ?_) (fun h => by cases h)
    rw [p3 rfl]
    refine cond_i (fun h => by simp at h) (fun _ => ?_)
    refine ldHQ_i (rls a b) a (fun x hx => v13.ext hx) rfl ?_
    refine ldRQ_i (a := a) (b := b) (fun x hx => v13.ext hx) ?_
    refine boot_s fun w7 e7 => ?_
    have E37 := (E36.trans (Ext.drew _)).trans e7
    refine more_i E37 ?_
    refine model_s fun w8 e8 => ?_
    refine refBoot_s fun w9 e9 => ?_
    have E39 := (E37.trans e8).trans e9
    refine cond_i (fun h => by simp at h) (fun _ => ?_)
    refine ldR_i (a := a) (b := b) (v13.ext E39) ?_
    refine ldH_i h (v23.ext E39) rfl ?_
    refine with_s fun w10 e10 => ?_
    refine alloc_i fun g3 w11 e11 hg3 v3 => ?_
    have E311 := (E39.trans e10).trans e11
    have hsz := E39.size
    have hsz2 := e10.size
    refine stR_i v3 rfl fun w12 f12 v3' => ?_
    have E312 : Ext w3 w12 := Fr.own1 E311 f12 (by omega)
    have va := v13.ext E312
    have vh := v23.ext E312
    refine cond_i (fun h0 => ?_) (fun h0 => ?_)
    · have h0' : slot = 0 := by simpa using h0
      have hw : S.with a b slot h = (h, b) := by unfold S.with; rw [if_pos h0']
      rw [hw] at v3'
      refine ⟨fun x => Ext w12 x, Ext.drew _, ?_⟩
      refine ldRQ_i (a := a) (b := b) (fun x hx => va.ext hx) ?_
      refine ldHQ_i (rls a b) a (fun x hx => va.ext hx) rfl ?_
      refine half_s fun w13 e13 => ?_
      have E13 := (Ext.drew w12).trans e13
      refine more_i E13 ?_
      have hf : S.half a b 0 = a := rfl
      rw [hf]
      refine eqAQ_i (hls a) (hls a) (kH _) (kH _) ?_
      rw [eqH_refl]
      refine cond_i (fun _ => ?_) (fun h => by cases h)
      refine ldHQ_i (rls h b) h (fun x hx => v3'.ext hx) rfl ?_
      refine ldHQ_i (hls h) h (fun x hx => vh.ext hx) rfl ?_
      refine eqAQ_i (hls h) (hls h) (kH _) (kH _) ?_
      rw [eqH_refl]
      refine cond_i (fun _ => ?_) (fun h => by cases h)
      refine ldHQ_i (rls h b) b (fun x hx => v3'.ext hx) rfl ?_
      refine ldHQ_i (rls a b) b (fun x hx => va.ext hx) rfl ?_
      refine eqAQ_i (hls b) (hls b) (kH _) (kH _) ?_
      rw [eqH_refl]
      exact hK _ ((E3.trans E312).trans E13)
    · have h0' : ¬ slot = 0 := by simpa using h0
      refine cond_i (fun h1 => ?_) (fun h1 => ?_)
      · have h1' : slot = 1 := by simpa using h1
        have hw : S.with a b slot h = (a, h) := by unfold S.with; rw [if_neg h0', if_pos h1']
        rw [hw] at v3'
        refine ⟨fun x => Ext w12 x, Ext.drew _, ?_⟩
        refine ldRQ_i (a := a) (b := b) (fun x hx => va.ext hx) ?_
        refine ldHQ_i (rls a b) b (fun x hx => va.ext hx) rfl ?_
        refine half_s fun w13 e13 => ?_
        have E13 := (Ext.drew w12).trans e13
        refine more_i E13 ?_
        have hf : S.half a b 1 = b := rfl
        rw [hf]
        refine eqAQ_i (hls b) (hls b) (kH _) (kH _) ?_
        rw [eqH_refl]
        refine cond_i (fun _ => ?_) (fun h => by cases h)
        refine ldHQ_i (rls a h) h (fun x hx => v3'.ext hx) rfl ?_
        refine ldHQ_i (hls h) h (fun x hx => vh.ext hx) rfl ?_
        refine eqAQ_i (hls h) (hls h) (kH _) (kH _) ?_
        rw [eqH_refl]
        refine cond_i (fun _ => ?_) (fun h => by cases h)
        refine ldHQ_i (rls a h) a (fun x hx => v3'.ext hx) rfl ?_
        refine ldHQ_i (rls a b) a (fun x hx => va.ext hx) rfl ?_
        refine eqAQ_i (hls a) (hls a) (kH _) (kH _) ?_
        rw [eqH_refl]
        exact hK _ ((E3.trans E312).trans E13)
      · have h1' : ¬ slot = 1 := by simpa using h1
        have hw : S.with a b slot h = (a, b) := by unfold S.with; rw [if_neg h0', if_neg h1']
        have hf : S.half a b slot = S.Half.zero := by unfold S.half; rw [if_neg h0', if_neg h1']
        rw [hw] at v3'
        refine ldR_i (a := a) (b := b) va ?_
        refine half_s fun w13 e13 => ?_
        rw [hf]
        refine eqA_i (hls .zero) (hls .zero) (kH _) (kH _) ?_
        rw [eqH_refl]
        refine join_i (fun c x => x = w13 ∧ c = true) ?_ fun J hJ => ?_
        · rintro c x ⟨rfl, rfl⟩
          exact hK _ ((E3.trans E312).trans e13)
        · refine cond_i (fun _ => ?_) (fun h => by cases h)
          refine ldR_i (a := a) (b := b) (v3'.ext e13) ?_
          refine ldR_i (a := a) (b := b) (va.ext e13) ?_
          refine eqA_i (rls a b) (rls a b) (kR _ _) (kR _ _) ?_
          rw [eqR_refl]
          exact hJ _ _ ⟨rfl, rfl⟩
end Go.Proofs.Ytmcejfmjclngaaa
