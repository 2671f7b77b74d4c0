/- Layer 14 (tail): the anchor; the laws TailEncodes, TailParses. -/
import Derived.Test.YtepjheacppoelaaTail14d
set_option linter.unusedSimpArgs false
set_option linter.unusedVariables false
namespace Go.S
open Go Go.Eng
theorem store_head {b raw : List UInt8} {data : Int} (h : (storeP b data raw).1 = 0) (hN : b.length ≤ 1048576) (h64 : 64 ≤ b.length) : ((storeP b data raw).2.drop (b.length - 64)).take 4 = [65, 86, 66, 102] := by
  obtain ⟨h1, h2, h3, h4, h5, h6, h7, h8, h9⟩ := stored h hN
  rw [h8]
  have := over_same (old := over b raw (align data 64).1.toNat fun _ => true) (bs := tB ⟨data, (align data 64).1, raw.length⟩) (off := b.length - 64) (by rw [tB_len, over_length]; omega)
  rw [tB_len] at this
  have h4 : ∀ l : List UInt8, l.take 4 = (l.take 64).take 4 := fun l => by rw [List.take_take]; rfl
  rw [h4, this]
  unfold tB thead
  rw [List.append_assoc, List.append_assoc, List.append_assoc]; rfl
theorem anchor_store : (storeP (List.replicate 512 0) 10 (List.replicate 100 0)).1 = 0 := by decide +kernel
theorem anchor_facts : ∃ b0 raw : List UInt8, b0 = List.replicate 512 0 ∧ raw = List.replicate 100 0 ∧ b0.length = 512 ∧ raw.length = 100 ∧ (storeP b0 10 raw).1 = 0 ∧ ((storeP b0 10 raw).2.drop 448).take 4 = [65, 86, 66, 102] ∧
    loadP ⟨[112], (storeP b0 10 raw).2, fun _ => false⟩ = (raw, ⟨10, 64, 100⟩, 0) := by
  obtain ⟨b0, hb⟩ : ∃ b : List UInt8, b = List.replicate 512 0 := ⟨_, rfl⟩
  obtain ⟨raw, hr⟩ : ∃ b : List UInt8, b = List.replicate 100 0 := ⟨_, rfl⟩
  have hbl : b0.length = 512 := by rw [hb]; exact List.length_replicate
  have hrl : raw.length = 100 := by rw [hr]; exact List.length_replicate
  have hst : (storeP b0 10 raw).1 = 0 := by rw [hb, hr]; exact anchor_store
  have hh := store_head hst (by omega) (by omega)
  rw [hbl] at hh
  have hl := load_stored (nm := [112]) hst (by omega)
  rw [hrl] at hl
  exact ⟨b0, raw, hb, hr, hbl, hrl, hst, hh, hl⟩
end Go.S
namespace Go.Proofs.Ytepjheacppoelaa
open Go Go.Eng
theorem open_Tail {cs : List Value} (h : KindsW lT cs) : ∃ y : S.Tl, cs = tls y ∧ okT y := by
  rcases cs with _ | ⟨c0, _ | ⟨c1, _ | ⟨c2, _ | ⟨c3, cs⟩⟩⟩⟩
  · exact h.elim
  · exact h.2.elim
  · exact h.2.2.elim
  · obtain ⟨⟨x, rfl, hx⟩, ⟨y, rfl, hy⟩, ⟨z, rfl, hz⟩, _⟩ := h
    exact ⟨⟨x, y, z⟩, rfl, wf_i64 hx, wf_i64 hy, wf_i64 hz⟩
  · exact h.2.2.2.elim
theorem anchor_s {K : Bool → World → Prop} {w : World} (hK : ∀ w', Ext w w' → K true w') : callS Try.prog 9 #[] [.one .bool] K w := by
  refine f9_ok ?_
  unfold f9
  obtain ⟨b0, raw, hb0, hraw, hbl, hrl, hst, hhd, hld⟩ := S.anchor_facts
  refine made_s ⟨by omega, by omega⟩ (fun w' e h => absurd (by decide +kernel) h) fun gd L w1 e1 _ hgd hin d1 => ?_
  have own : ∀ {a b : World}, Ext w a → Fr (L.inD gd) a b → Ext w b := fun h1 h2 => Ext.own h1 h2 hin
  have own1 : ∀ {a b : World}, Ext w a → Fr (fun k => k = gd) a b → Ext w b := fun h1 h2 => Fr.own1 h1 h2 hgd
  refine ptrEq_i ?_
  rw [show (512 : Int).toNat = 512 by rfl, ← hb0] at d1
  have hf1 : S.Fit (S.one [112] b0 (fun _ => false) (-1) [] false 0 0) [112] 0 ⟨[112], b0, fun _ => false⟩ := fit_one
  have hlen0 : (S.Area.mk [112] b0 (fun _ => false)).b.length = 512 := hbl
  refine join_i (fun b w' => b = false ∧ Ext w w' ∧ ∃ D, DriveAt w' gd L D ∧ S.Fit D [112] 0 ⟨[112], (S.storeP b0 10 raw).2, fun _ => false⟩) ?_ fun J hJ => ?_
  rotate_left
  · refine cond_i (fun h => by cases h) (fun _ => ?_)
    refine makeB_i (by omega) (by omega) fun v w2 e2 o2 => ?_
    have e12 := e1.trans e2
    rw [show (100 : Int).toNat = 100 by rfl, ← hraw] at o2
    refine tstore_s (name := ByteArray.mk #[112]) (d1.ext e2) ⟨by omega, by omega⟩ o2.rd (fun _ a ha hd => by have := d1.lt hd; have := (o2.inB ⟨a, ha, rfl⟩).1; omega) fun w3 f3 d3 => ?_
    rw [p_toList] at d3 ⊢
    obtain ⟨D', hs, hfit, _, _, _⟩ := S.store_fit (data := 10) (raw := raw) hf1 (by omega) rfl
    rw [hs] at d3 ⊢
    rw [show (S.storeP (S.Area.mk [112] b0 (fun _ => false)).b 10 raw).1 = 0 from hst]
    exact hJ _ _ ⟨rfl, own e12 f3, D', d3, hfit⟩
  rintro b w3 ⟨rfl, E3, D, d3, fit⟩
  refine cond_i (fun h => by cases h) (fun _ => ?_)
  have hsl : (S.storeP b0 10 raw).2.length = 512 := by rw [S.storeP_len]; exact hbl
  obtain ⟨D2, hl, has, _, _, hdn⟩ := S.load_fit fit (by show 64 ≤ (S.storeP b0 10 raw).2.length; omega)
  rw [hld] at hl
  refine tload_s (name := ByteArray.mk #[112]) d3 fun v w4 f4 d4 o4 => ?_
  rw [p_toList, hl] at d4 o4 ⊢
  simp only at d4 o4 ⊢
  have E4 := own1 E3 f4
  have hvl := OwnB.len o4
  rw [hrl] at hvl
  refine alloc_i fun g5 w5 e5 hg5 v5 => ?_
  refine stT_i v5 rfl fun w6 f6 v6 => ?_
  have v6 : Var w6 g5 (tls ⟨10, 64, 100⟩) := v6
  have e46 := Fr.own1 e5 f6 hg5
  have fit2 := fit.same has hdn
  refine dRead_s (name := ByteArray.mk #[112]) (d4.ext e46) ⟨by omega, by omega⟩ ⟨by omega, by omega⟩ fun u w7 f7 d7 o7 => ?_
  rw [p_toList, fit2.read] at d7 o7 ⊢
  have hbi : ∀ off len, (S.Area.mk [112] (S.storeP b0 10 raw).2 (fun _ => false)).badIn off len = false := fun off len => S.badIn_none
  have hw : S.within 448 4 ((S.storeP b0 10 raw).2.length : Int) = true := by rw [hsl]; decide
  rw [hw, hbi] at o7 ⊢
  simp only [Bool.true_eq_false, if_false, Bool.false_eq_true] at o7 ⊢
  rw [show (448 : Int).toNat = 448 by rfl, show (4 : Int).toNat = 4 by rfl, hhd] at o7
  have E7 := own1 (E4.trans e46) f7
  have v7 := v6.fr f7 (by have := d4.lt (.inl rfl : L.inD gd gd); omega)
  refine join_i (fun b w' => b = true ∧ w7 = w') ?_ fun J hJ => ?_
  rotate_left
  · refine cond_i (fun _ => ?_) (fun h => by rw [hvl] at h; simp at h)
    refine ldT_i v7 ?_
    refine eqA_i (tls ⟨10, 64, 100⟩) (tls ⟨10, 64, 100⟩) (kT _) (kT _) ?_
    rw [eqT_refl]
    exact hJ _ _ ⟨rfl, rfl⟩
  rintro b w' ⟨rfl, rfl⟩
  refine join_i (fun b w' => b = true ∧ w7 = w') ?_ fun J hJ => ?_
  rotate_left
  · refine cond_i (fun _ => ?_) (fun h => by simp at h)
    refine b2s_i o7.rd ?_
    exact hJ _ _ ⟨by rw [str_toList, show (ByteArray.mk #[65, 86, 66, 102]).toList = [65, 86, 66, 102] by rw [ByteArray.toList_eq]]; rfl, rfl⟩
  rintro b w' ⟨rfl, rfl⟩
  exact hK _ E7

theorem TailEncodes_s {t : S.Tl} {K : Bool → World → Prop} {w : World} (ht : okT t) (hK : ∀ w', Ext w w' → K true w') :
    callS Try.prog 7 #[.agg #[.int .i64 t.d, .int .i64 t.o, .int .i64 t.s]] [.one .bool] K w := by
  refine f7_ok ?_
  unfold f7
  refine box_i fun g w1 e1 hg v1 => ?_
  have v1 : Var w1 g (tls t) := v1
  refine anchor_s fun w2 e2 => ?_
  refine cond_i (fun h => by cases h) (fun _ => ?_)
  refine ldT_i (v1.ext e2) ?_
  refine tencode_s (fun hr w6 e6 => ?_) (fun hr v w6 e6 o6 => ?_)
  · refine ⟨fun x => Ext w6 x, Ext.drew _, ?_⟩
    have v16 := v1.ext (e2.trans e6)
    refine ldTQ_i (a := t) (fun x hx => v16.ext hx) ?_
    refine ldTQ_i (a := t) (fun x hx => v16.ext hx) ?_
    refine tright_s fun w7 e7 => ?_
    have e67 := (Ext.drew w6).trans e7
    refine more_i e67 ?_
    refine lawRight_s fun w8 e8 => ?_
    have e68 := e67.trans e8
    rw [hr]
    refine cond_i (fun h => by cases h) (fun _ => ?_)
    refine ldT_i (v16.ext e68) ?_
    refine lawRight_s fun w9 e9 => ?_
    rw [hr]
    exact cond_i (fun _ => hK _ (((e1.trans e2).trans e6).trans (e68.trans e9))) (fun h => by cases h)
  · refine ⟨fun x => Ext w6 x, Ext.drew _, ?_⟩
    have v16 := v1.ext (e2.trans e6)
    refine ldTQ_i (a := t) (fun x hx => v16.ext hx) ?_
    refine ldTQ_i (a := t) (fun x hx => v16.ext hx) ?_
    refine tright_s fun w7 e7 => ?_
    have e67 := (Ext.drew w6).trans e7
    refine more_i e67 ?_
    refine lawRight_s fun w8 e8 => ?_
    have e68 := e67.trans e8
    rw [hr]
    refine cond_i (fun h => by cases h) (fun _ => ?_)
    refine ldT_i (v16.ext e68) ?_
    refine lawRight_s fun w9 e9 => ?_
    have e69 := e68.trans e9
    rw [hr]
    refine cond_i (fun h => by cases h) (fun _ => ?_)
    obtain ⟨hz, hp⟩ := S.tround hr
    refine tparse_s (o6.ext e69).rd (by rw [S.tB_len]; omega) fun w10 e10 => ?_
    rw [hp, hz]
    refine alloc_i fun g11 w11 e11 hg11 v11 => ?_
    refine stT_i v11 rfl fun w12 f12 v12 => ?_
    have e612 := (e69.trans e10).trans (Fr.own1 e11 f12 hg11)
    refine ⟨fun x => Ext w12 x, Ext.drew _, ?_⟩
    refine cond_i (fun _ => ?_) (fun h => by cases h)
    refine b2sQ_i (fun x hx => (o6.ext (e612.trans hx)).rd) ?_
    refine ldTQ_i (a := t) (fun x hx => v16.ext (e612.trans hx)) ?_
    refine lawBytes_s (putT_right hr) fun y w13 e13 o13 => ?_
    have e1213 := (Ext.drew w12).trans e13
    refine more2_i (fun x => Ext w13 x) (Fr.refl _ _) (fun x hx => e1213.trans hx) ?_
    refine b2sQ_i (fun x hx => (o13.ext hx).rd) ?_
    refine cond_i (fun _ => ?_) (fun h => by simp at h)
    refine cond_i (fun _ => ?_) (fun h => by cases h)
    refine ldTQ_i (a := t) (fun x hx => v12.ext (e1213.trans hx)) ?_
    refine ldTQ_i (a := t) (fun x hx => v16.ext (e612.trans (e1213.trans hx))) ?_
    refine eqAQ_i (tls t) (tls t) (kT _) (kT _) ?_
    rw [eqT_refl]
    exact hK _ (((e1.trans e2).trans e6).trans (e612.trans e1213))

theorem TailParses_s {s : Sl} {bs : List UInt8} {K : Bool → World → Prop} {w : World} (hs : Bts w s bs) (hK : ∀ w', Ext w w' → K true w') :
    callS Try.prog 3 #[.slice s.a s.len s.cap] [.one .bool] K w := by
  refine f3_ok ?_
  unfold f3
  have hbl := Bts.len hs
  have hcap := hs.cap
  refine anchor_s fun w1 e1 => ?_
  refine cond_i (fun h => by cases h) (fun _ => ?_)
  refine cond_i (fun _ => hK w1 e1) (fun hlen => ?_)
  have hl300 : bs.length ≤ 300 := by simp at hlen; omega
  refine tparse_s (hs.ext e1) (by omega) fun w2 e2 => ?_
  refine alloc_i fun g3 w3 e3 hg3 v3 => ?_
  refine stT_i v3 rfl fun w4 f4 v4 => ?_
  have v4 : Var w4 g3 (tls (S.tParse bs)) := v4
  have E4 := (e1.trans e2).trans (Fr.own1 e3 f4 hg3)
  have hs4 := hs.ext E4
  refine join_i (fun (x : Int) w' => x = S.tErr bs ∧ Ext w4 w') ?_ fun J hJ => ?_
  · rintro x w' ⟨rfl, e⟩
    refine join_i (fun b w' => b = true ∧ Ext w4 w') (fun b w' ⟨hb, h⟩ => by rw [hb]; exact hK w' (E4.trans h)) fun J hJ => ?_
    refine cond_i (fun _ => ?_) (fun h => by simp at h)
    refine join_i (fun b w' => b = true ∧ Ext w4 w') (fun b w' hb => hJ _ _ hb) fun J2 hJ2 => ?_
    refine cond_i (fun _ => hJ2 _ _ ⟨rfl, e⟩) (fun h => ?_)
    have hne : S.tErr bs ≠ 0 := by simpa using h
    have hp : S.tParse bs = .zero := by unfold S.tParse; rw [if_neg hne]
    rw [hp] at v4
    refine ldT_i (v4.ext e) ?_
    refine eqA_i (tls .zero) (tls .zero) (kT _) (kT _) ?_
    rw [eqT_refl]
    exact hJ2 _ _ ⟨rfl, e⟩
  · refine cond_i (fun h => ?_) (fun h => ?_)
    · have hl : bs.length ≠ 64 := by simp at h; omega
      exact hJ _ _ ⟨by unfold S.tErr; rw [if_pos hl], Fr.refl _ _⟩
    · have hl : bs.length = 64 := by simp at h; omega
      refine slHi_i (by omega) (by omega) ?_
      have c4 : Bts w4 (s.cut 1 0 (4 : Int).toNat) (bs.take 4) := by
        have := Bts.cut hs4 (l := 0) (hi := 4) (by omega) (by omega); simpa using this
      refine b2s_i c4 ?_
      rw [str_toList, show (ByteArray.mk #[65, 86, 66, 102]).toList = [65, 86, 66, 102] by rw [ByteArray.toList_eq]]
      refine cond_i (fun h => ?_) (fun h => ?_)
      · have h4 : bs.take 4 ≠ [65, 86, 66, 102] := by simpa using h
        exact hJ _ _ ⟨by unfold S.tErr; rw [if_neg (Classical.not_not.2 hl), if_pos h4], Fr.refl _ _⟩
      · have h4 : bs.take 4 = [65, 86, 66, 102] := by simpa using h
        refine sl2_i (by omega) (by omega) (by omega) ?_
        have c8 : Bts w4 (s.cut 1 (4 : Int).toNat (8 : Int).toNat) ((bs.drop 4).take 4) := Bts.cut hs4 (l := 4) (hi := 8) (by omega) (by omega)
        refine b2s_i c8 ?_
        rw [str_toList, show (ByteArray.mk #[0, 0, 0, 1]).toList = [0, 0, 0, 1] by rw [ByteArray.toList_eq]]
        refine cond_i (fun h => ?_) (fun h => ?_)
        · have h5 : (bs.drop 4).take 4 ≠ [0, 0, 0, 1] := by simpa using h
          exact hJ _ _ ⟨by unfold S.tErr; rw [if_neg (Classical.not_not.2 hl), if_neg (Classical.not_not.2 h4), if_pos h5], Fr.refl _ _⟩
        · have h5 : (bs.drop 4).take 4 = [0, 0, 0, 1] := by simpa using h
          refine get12_s (off := 8) hs4 (by omega) (by omega) fun r1 hr1 => ?_
          refine get12_s (off := 16) hs4 (by omega) (by omega) fun r2 hr2 => ?_
          refine get12_s (off := 24) hs4 (by omega) (by omega) fun r3 hr3 => ?_
          refine alloc_i fun g5 w5 e5 hg5 v5 => ?_
          refine stT_i v5 rfl fun w6 f6 v6 => ?_
          have v6 : Var w6 g5 (tls ⟨r1, r2, r3⟩) := v6
          have e46 := Fr.own1 e5 f6 hg5
          have herr : S.tErr bs = if (S.tAt bs).right = false ∨ S.tB (S.tAt bs) ≠ bs then 12 else 0 := by
            unfold S.tErr; rw [if_neg (Classical.not_not.2 hl), if_neg (Classical.not_not.2 h4), if_neg (Classical.not_not.2 h5)]
          -- the two readings
          have hrr : ((⟨r1, r2, r3⟩ : S.Tl).right = true ∧ (⟨r1, r2, r3⟩ : S.Tl) = S.tAt bs) ∨ ((⟨r1, r2, r3⟩ : S.Tl).right = false ∧ (S.tAt bs).right = false) := by
            by_cases hx : r1 = (S.tAt bs).d ∧ r2 = (S.tAt bs).o ∧ r3 = (S.tAt bs).s
            · obtain ⟨rfl, rfl, rfl⟩ := hx
              cases hr : (S.tAt bs).right with
              | true => exact .inl ⟨rfl, rfl⟩
              | false => exact .inr ⟨rfl, rfl⟩
            · refine .inr ⟨?_, ?_⟩
              · rw [Bool.eq_false_iff]; intro h
                have := S.tright_iff.1 h
                simp only [S.tAt] at this hx
                omega
              · rw [Bool.eq_false_iff]; intro h
                have := S.tright_iff.1 h
                simp only [S.tAt] at this hx
                omega
          refine join_i (fun b w' => b = (!((S.tAt bs).right && (S.tB (S.tAt bs) == bs))) ∧ Ext w6 w') ?_ fun J2 hJ2 => ?_
          · rintro b w' ⟨rfl, e⟩
            refine cond_i (fun h => ?_) (fun h => ?_)
            · refine hJ _ _ ⟨?_, e46.trans e⟩
              rw [herr, if_pos]
              cases hr : (S.tAt bs).right with
              | false => exact .inl rfl
              | true => rw [hr] at h; exact .inr (by simpa using h)
            · have hr : (S.tAt bs).right = true ∧ S.tB (S.tAt bs) = bs := by simpa using h
              have hz : S.tErr bs = 0 := by rw [herr, if_neg (by rw [hr.1, hr.2]; simp)]
              have hp : S.tParse bs = S.tAt bs := by unfold S.tParse; rw [if_pos hz]
              have hx : (⟨r1, r2, r3⟩ : S.Tl) = S.tAt bs := by
                rcases hrr with ⟨_, h⟩ | ⟨_, h⟩
                · exact h
                · rw [hr.1] at h; cases h
              refine ldT_i (a := S.tAt bs) (by rw [hp] at v4; exact v4.ext (e46.trans e)) ?_
              refine ldT_i (a := S.tAt bs) (by rw [hx] at v6; exact v6.ext e) ?_
              refine neA_i (tls (S.tAt bs)) (tls (S.tAt bs)) (kT _) (kT _) ?_
              rw [eqT_refl]
              exact cond_i (fun h => by cases h) (fun _ => hJ _ _ ⟨hz.symm, e46.trans e⟩)
          · have hd := Ext.drew w6
            refine ⟨fun x => Ext w6 x, hd, ?_⟩
            refine ldTQ_i (fun x hx => v6.ext hx) ?_
            refine lawRight_s (t := ⟨r1, r2, r3⟩) fun w7 e7 => ?_
            have e67 := hd.trans e7
            refine more_i e67 ?_
            rcases hrr with ⟨ha, hb⟩ | ⟨ha, hb⟩
            · rw [ha]
              refine cond_i (fun h => by cases h) (fun _ => ?_)
              refine ldTQ_i (fun x hx => v6.ext hx) ?_
              refine b2sQ_i (fun x hx => (hs4.ext (e46.trans hx))) ?_
              refine lawBytes_s (t := ⟨r1, r2, r3⟩) (putT_right ha) fun y w8 e8 o8 => ?_
              have e68 := e67.trans e8
              refine more2_i (fun x => Ext w8 x) (Fr.refl _ _) (fun x hx => e68.trans hx) ?_
              refine b2sQ_i (fun x hx => (o8.ext hx).rd) ?_
              refine hJ2 _ _ ⟨?_, e68⟩
              rw [str_toList, str_toList, ← hb, ha]; rfl
            · rw [ha]
              exact cond_i (fun _ => hJ2 _ _ ⟨by rw [hb]; rfl, e67⟩) (fun h => by cases h)
end Go.Proofs.Ytepjheacppoelaa
