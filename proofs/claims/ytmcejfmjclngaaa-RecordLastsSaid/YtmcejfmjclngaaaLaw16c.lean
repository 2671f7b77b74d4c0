/- The laws of layer 16 over the contracts: a record's bytes. -/
import Derived.Test.YtmcejfmjclngaaaRec16c
set_option linter.unusedSimpArgs false
set_option linter.unusedVariables false
namespace Go.Proofs.Ytmcejfmjclngaaa
open Go Go.Eng

theorem RecordEncodes_s {a b : S.Half} {K : Bool → World → Prop} {w : World} (ha : okH a) (hb : okH b) (hK : ∀ w', Ext w w' → K true w') :
    callS Try.prog 7 #[.agg #[.int .i64 a.p, .int .i64 a.t, .bool a.g, .int .i64 b.p, .int .i64 b.t, .bool b.g]] [.one .bool] K w := by
  refine f7_ok ?_
  unfold f7
  refine box_i fun g w1 e1 hg v1 => ?_
  refine anchor_s fun w2 e2 => ?_
  refine cond_i (fun h => by cases h) (fun _ => ?_)
  refine ldR_i (a := a) (b := b) (v1.ext e2) ?_
  refine model_s fun w3 e3 => ?_
  refine alloc_i fun g4 w4 e4 hg4 v4 => ?_
  refine stR_i v4 rfl fun w5 f5 v5 => ?_
  have e15 := (e2.trans e3).trans (Fr.own1 e4 f5 hg4)
  refine ldR_i (a := a) (b := b) (v1.ext e15) ?_
  refine encode_s (fun hr w6 e6 => ?_) (fun hr v w6 e6 o6 => ?_)
  · refine ⟨fun x => Ext w6 x, Ext.drew _, ?_⟩
    have v16 := v1.ext (e15.trans e6)
    have v56 := v5.ext e6
    refine ldRQ_i (a := a) (b := b) (fun x hx => v16.ext hx) ?_
    refine ldRQ_i (a := a) (b := b) (fun x hx => v56.ext hx) ?_
    refine rightR_s fun w7 e7 => ?_
    have e67 := (Ext.drew w6).trans e7
    refine more_i e67 ?_
    refine refRightR_s fun w8 e8 => ?_
    have e68 := e67.trans e8
    rw [hr]
    refine cond_i (fun h => by cases h) (fun _ => ?_)
    refine ldR_i (a := a) (b := b) (v56.ext e68) ?_
    refine refRightR_s fun w9 e9 => ?_
    rw [hr]
    exact hK _ (((e1.trans e15).trans e6).trans (e68.trans e9))
  · refine ⟨fun x => Ext w6 x, Ext.drew _, ?_⟩
    have v16 := v1.ext (e15.trans e6)
    have v56 := v5.ext e6
    refine ldRQ_i (a := a) (b := b) (fun x hx => v16.ext hx) ?_
    refine ldRQ_i (a := a) (b := b) (fun x hx => v56.ext hx) ?_
    refine rightR_s fun w7 e7 => ?_
    have e67 := (Ext.drew w6).trans e7
    refine more_i e67 ?_
    refine refRightR_s fun w8 e8 => ?_
    have e68 := e67.trans e8
    rw [hr]
    refine cond_i (fun h => by cases h) (fun _ => ?_)
    refine ldR_i (a := a) (b := b) (v56.ext e68) ?_
    refine refRightR_s fun w9 e9 => ?_
    have e69 := e68.trans e9
    rw [hr]
    refine cond_i (fun h => by cases h) (fun _ => ?_)
    have hab : a.right = true ∧ b.right = true := by simpa using hr
    obtain ⟨hz, hp⟩ := S.round hab.1 hab.2
    refine parse_s (o6.ext e69).rd (by rw [S.recB_len]; omega) fun w10 e10 => ?_
    rw [hp, hz]
    refine alloc_i fun g11 w11 e11 hg11 v11 => ?_
    refine stR_i v11 rfl fun w12 f12 v12 => ?_
    have e612 := (e69.trans e10).trans (Fr.own1 e11 f12 hg11)
    refine ⟨fun x => Ext w12 x, Ext.drew _, ?_⟩
    refine cond_i (fun _ => ?_) (fun h => by cases h)
    refine b2sQ_i (fun x hx => (o6.ext (e612.trans hx)).rd) ?_
    refine ldRQ_i (a := a) (b := b) (fun x hx => v56.ext (e612.trans hx)) ?_
    refine refBytes_s fun y w13 e13 o13 => ?_
    have e1213 := (Ext.drew w12).trans e13
    refine more2_i (fun x => Ext w13 x) (Fr.refl _ _) (fun x hx => e1213.trans hx) ?_
    refine b2sQ_i (fun x hx => (o13.ext hx).rd) ?_
    refine cond_i (fun _ => ?_) (fun h => by simp at h)
    refine cond_i (fun _ => ?_) (fun h => by cases h)
    refine ldRQ_i (a := a) (b := b) (fun x hx => v12.ext (e1213.trans hx)) ?_
    refine ldRQ_i (a := a) (b := b) (fun x hx => v16.ext (e612.trans (e1213.trans hx))) ?_
    refine eqAQ_i (rls a b) (rls a b) (kR _ _) (kR _ _) ?_
    rw [eqR_refl]
    exact hK _ (((e1.trans e15).trans e6).trans (e612.trans e1213))

theorem RecordUnlike_s {a b a' b' : S.Half} {at0 : Int} {K : Bool → World → Prop} {w : World} (ha : okH a) (hb : okH b) (ha' : okH a') (hb' : okH b') (hat : -9223372036854775808 ≤ at0 ∧ at0 ≤ 9223372036854775807) (hK : ∀ w', Ext w w' → K true w') :
    callS Try.prog 8 #[.agg #[.int .i64 a.p, .int .i64 a.t, .bool a.g, .int .i64 b.p, .int .i64 b.t, .bool b.g], .agg #[.int .i64 a'.p, .int .i64 a'.t, .bool a'.g, .int .i64 b'.p, .int .i64 b'.t, .bool b'.g], .int .i64 at0] [.one .bool] K w := by
  refine f8_ok ?_
  unfold f8
  refine box_i fun g1 w1 e1 hg1 v1 => ?_
  refine box_i fun g2 w2 e2 hg2 v2 => ?_
  refine anchor_s fun w3 e3 => ?_
  have v13 := v1.ext (e2.trans e3)
  have v23 := v2.ext e3
  have E3 := (e1.trans e2).trans e3
  refine cond_i (fun h => by cases h) (fun _ => ?_)
  refine ldR_i (a := a) (b := b) v13 ?_
  refine encode_s (fun hr w4 e4 => ?_) (fun hr v w4 e4 o4 => ?_)
  · refine ldR_i (a := a') (b := b') (v23.ext e4) ?_
    refine encode_s (fun hr w5 e5 => hK _ ((E3.trans e4).trans e5)) (fun hr v w5 e5 o5 => hK _ ((E3.trans e4).trans e5))
  · refine ldR_i (a := a') (b := b') (v23.ext e4) ?_
    refine encode_s (fun hr w5 e5 => hK _ ((E3.trans e4).trans e5)) (fun hr' v' w5 e5 o5 => ?_)
    have E45 := e4.trans e5
    refine cond_i (fun h => hK _ (E3.trans E45)) (fun h => ?_)
    obtain ⟨m, rfl⟩ : ∃ m : Nat, at0 = m := ⟨at0.toNat, by simp at h; omega⟩
    have hab : a.right = true ∧ b.right = true := by simpa using hr
    have hab' : a'.right = true ∧ b'.right = true := by simpa using hr'
    have hl := S.recB_len a b
    have o45 := o4.ext e5
    refine copyB_i o45.rd (by omega) fun u w6 e6 o6 => ?_
    have hul := OwnB.len o6
    have E46 := E45.trans e6
    refine ⟨fun x => Ext w6 x, Ext.drew _, ?_⟩
    have hq : (IntKind.wrap .i64 (Int.tdiv (m : Int) 8)) = ((m / 8 : Nat) : Int) := by
      rw [Int.tdiv_eq_ediv_of_nonneg (by omega), wrap_i64 (by omega) (by omega)]; rfl
    have hm : Int.tmod (m : Int) 8 = ((m % 8 : Nat) : Int) := by rw [Int.tmod_eq_emod_of_nonneg (by omega)]; rfl
    rw [hq, hm]
    refine remQ_i (by omega) ?_
    have hx : Int.tmod ((m / 8 : Nat) : Int) (u.len : Int) = ((m / 8 % 32 : Nat) : Int) := by rw [Int.tmod_eq_emod_of_nonneg (by omega), hul, hl]; rfl
    rw [hx]
    have hi : m / 8 % 32 < 32 := Nat.mod_lt _ (by omega)
    generalize m / 8 % 32 = i at hi
    obtain ⟨ad, had⟩ := o6.rd.some (by omega)
    refine ixQ_i had (by omega) (by omega) ?_
    have hi' : i < (S.recB a b).length := by omega
    refine ldQ_i (l := .int .u8) (((S.recB a b)[i].toNat : Int)) (fun w' hw' => ?_) ?_
    · have := (o6.rd.ext hw').cells ad had i _ (bytes_get hi')
      simpa using this
    · have h8 : m % 8 < 8 := Nat.mod_lt _ (by omega)
      refine shlQ_i (by omega) ?_
      rw [shl8 h8]
      have hne := S.flip_ne (S.recB a b)[i] (m % 8) h8
      generalize UInt8.ofNat (2 ^ (m % 8)) = k at hne
      refine ixQ_i had (by omega) (by omega) ?_
      have hd := Ext.drew w6
      have o7 := o6.ext hd
      obtain ⟨⟨q, hu⟩, hf, fr, o'⟩ := o7.set had (i := i) (by omega) (vB ((S.recB a b)[i] ^^^ k))
      have hxor : xorI .u8 ((S.recB a b)[i].toNat : Int) (k.toNat : Int) = (((S.recB a b)[i] ^^^ k).toNat : Int) := by
        rw [xor_u8 (UInt8.toNat_lt _) (UInt8.toNat_lt _)]; simp
      rw [hxor]
      simp only [Int.toNat_natCast, Nat.mul_one]
      refine st_i hu hf rfl ?_
      have hbs : Bts (w6.drew.setCell (ad.add i) (vB ((S.recB a b)[i] ^^^ k))) u ((S.recB a b).set i ((S.recB a b)[i] ^^^ k)) := by
        have := o'.rd
        unfold Bts
        rw [List.map_set]; exact this
      have ef : Ext w5 (w6.drew.setCell (ad.add i) (vB ((S.recB a b)[i] ^^^ k))) := Ext.own (e6.trans hd) fr fun k hk => (o7.inB hk).1
      have hpe := S.turned (a := a) (b := b) i hi _ hne
      refine parse_s hbs (by simp; omega) fun w8 e8 => ?_
      have hpz : S.parse ((S.recB a b).set i ((S.recB a b)[i] ^^^ k)) = (.zero, .zero) := by unfold S.parse; rw [if_neg hpe]
      rw [hpz]
      refine alloc_i fun g9 w9 e9 hg9 v9 => ?_
      refine stR_i v9 rfl fun w10 f10 v10 => ?_
      have E510 := (ef.trans e8).trans (Fr.own1 e9 f10 hg9)
      refine ⟨fun x => Ext w10 x, Ext.drew _, ?_⟩
      refine b2sQ_i (fun x hx => (o45.ext (E510.trans hx)).rd) ?_
      refine b2sQ_i (fun x hx => (o5.ext (E510.trans hx)).rd) ?_
      refine ldRQ_i (a := a) (b := b) (fun x hx => v13.ext (E45.trans (E510.trans hx))) ?_
      refine ldRQ_i (a := a') (b := b') (fun x hx => v23.ext (E45.trans (E510.trans hx))) ?_
      refine eqAQ_i (rls a b) (rls a' b') (kR _ _) (kR _ _) ?_
      have heq : ((str (S.recB a b)).toList == (str (S.recB a' b')).toList) = eqCells (rls a b) (rls a' b') := by
        rw [str_toList, str_toList, Bool.eq_iff_iff, beq_iff_eq, S.recB_inj hab.1 hab.2 hab'.1 hab'.2, eqR_iff]
      rw [heq]
      refine cond_i (fun _ => ?_) (fun h => by simp at h)
      refine cond_i (fun _ => ?_) (fun h => absurd h (by simpa using hpe))
      refine ldRQ_i (a := .zero) (b := .zero) (fun x hx => v10.ext hx) ?_
      refine eqAQ_i (rls .zero .zero) (rls .zero .zero) (kR _ _) (kR _ _) ?_
      rw [eqR_refl]
      exact hK _ ((E3.trans E45).trans (E510.trans (Ext.drew _)))
end Go.Proofs.Ytmcejfmjclngaaa
