/- More laws of layer 1 over the contracts: cuts, parts, the order of bytes. -/
import Derived.Test.YtmmhnlojldedbaaLaw01b
set_option linter.unusedSimpArgs false
set_option linter.unusedVariables false
namespace Go.Proofs.Ytmmhnlojldedbaa
open Go Go.Eng

theorem SpanCuts_s {s : Sl} {bs : List UInt8} {off len total : Int} {K : Bool → World → Prop} {w : World} (hs : Bts w s bs) (ho : S.I64 off) (hl : S.I64 len) (ht : S.I64 total) (hK : ∀ w', Ext w w' → K true w') :
    callS Try.prog 5 #[.slice s.a s.len s.cap, .int .i64 off, .int .i64 len, .int .i64 total] [.one .bool] K w := by
  refine f5_ok ?_
  unfold f5
  refine anchor_s fun w1 e1 => ?_
  have hs1 := hs.ext e1
  have hbl := Bts.len hs1
  refine cond_i (fun h => by cases h) (fun _ => ?_)
  refine cond_i (fun h => hK _ e1) (fun h => ?_)
  have hlen : bs.length ≤ 2000 := by simp at h; omega
  refine within_s ho hl ht ?_
  refine lawWithin_s ho hl ht ?_
  refine cond_i (fun h => by simp at h) (fun _ => ?_)
  refine cut_s hs1 (by omega) ho hl fun v w2 e2 o2 => ?_
  have hvl := OwnB.len o2
  have hs2 := hs1.ext e2
  refine lawWithin_s ho hl (by constructor <;> omega) ?_
  rw [show S.within off len (s.len : Int) = S.within off len bs.length by rw [hbl]]
  refine cond_i (fun h => ?_) (fun h => ?_)
  · have hc : S.cut bs off len = ([], 10) := by unfold S.cut; rw [if_pos (by simpa using h)]
    rw [hc] at hvl ⊢
    have : ((10 : Int) == 10 && ((v.len : Int) == 0)) = true := by simp [hvl]
    simp only at this ⊢
    rw [this]
    exact hK _ (e1.trans e2)
  · have hw : S.within off len bs.length = true := by simpa using h
    obtain ⟨h1, h2, h3, h4, h5⟩ := S.within_iff.1 hw
    have hc : S.cut bs off len = ((bs.drop off.toNat).take len.toNat, 0) := by unfold S.cut; rw [if_neg (by simp [hw])]
    rw [hc] at hvl o2 ⊢
    simp only at hvl o2 ⊢
    refine ⟨fun w' => Ext w2 w', Ext.drew _, ?_⟩
    refine cond_i (fun h => by simp at h) (fun _ => ?_)
    refine b2sQ_i (fun w' hw' => o2.rd.ext hw') ?_
    rw [wrap_i64 (by omega) (by omega)]
    refine sl2Q_i (by omega) (by omega) (by have := hs.cap; omega) ?_
    have hcut : ∀ w', Ext w2 w' → Bts w' (s.cut 1 off.toNat (off + len).toNat) ((bs.drop off.toNat).take len.toNat) := fun w' hw' => by
      have := Bts.cut (hs2.ext hw') (l := off.toNat) (hi := (off + len).toNat) (by omega) (by omega)
      rwa [show (off + len).toNat - off.toNat = len.toNat by omega] at this
    refine b2sQ_i hcut ?_
    refine cond_i (fun h => by simp at h) (fun _ => ?_)
    have hd := Ext.drew w2
    refine b2s_i (hs2.ext hd) ?_
    have hvb : v.len ≤ 2000 := by simp at hvl; omega
    generalize hsub : (bs.drop off.toNat).take len.toNat = sub at hvl o2
    refine loop_i (fun (i : Int) w' => ∃ (k : Nat) (xs : List UInt8), k ≤ v.len ∧ i = k ∧ Ext w1 w' ∧ OwnB w' w1.heap.size v xs) (fun i _ => v.len - i.toNat) ⟨0, sub, by omega, rfl, e2.trans hd, o2.ext hd⟩ ?_
    rintro i w' again ⟨k, xs, hk, rfl, e', o'⟩ hag
    have hxl := OwnB.len o'
    refine cond_i (fun hlt => ?_) (fun hge => ?_)
    · have hlt' : k < v.len := by simp at hlt; omega
      refine elem_i (x := ((xs[k]'(by omega)).toNat : Int)) o'.rd (by omega) (by omega) (by simpa using bytes_get (by omega)) ?_
      refine put1_i (b := xs[k]'(by omega) ^^^ 255) o' (by omega) (by omega) ?_ fun w3 f3 o3 => ?_
      · rw [show (255 : Int) = ((255 : Nat) : Int) by rfl, xor_u8 (UInt8.toNat_lt _) (by omega)]
        simp
      · rw [wrap_i64 (by omega) (by omega)]
        refine hag _ w3 ⟨k + 1, _, by omega, by simp, Ext.own e' f3 fun i hi => (o'.inB hi).1, o3⟩ ?_
        omega
    · refine b2s_i (hs1.ext e') ?_
      simp only [str_toList, beq_self_eq_true]
      exact hK _ (e1.trans e')

theorem SpanParts_s {s : Sl} {bs : List UInt8} {off len i n : Int} {K : Bool → World → Prop} {w : World} (hs : Bts w s bs) (ho : S.I64 off) (hl : S.I64 len) (hi : S.I64 i) (hn : S.I64 n) (hK : ∀ w', Ext w w' → K true w') :
    callS Try.prog 6 #[.slice s.a s.len s.cap, .int .i64 off, .int .i64 len, .int .i64 i, .int .i64 n] [.one .bool] K w := by
  refine f6_ok ?_
  unfold f6
  refine anchor_s fun w1 e1 => ?_
  have hs1 := hs.ext e1
  have hbl := Bts.len hs1
  refine cond_i (fun h => by cases h) (fun _ => ?_)
  refine cond_i (fun h => hK _ e1) (fun h => ?_)
  have hlen : bs.length ≤ 2000 := by simp at h; omega
  refine cut_s hs1 (by omega) ho hl fun v w2 e2 o2 => ?_
  have hvl := OwnB.len o2
  have e12 := e1.trans e2
  by_cases hw : S.within off len bs.length = true
  · obtain ⟨h1, h2, h3, h4, h5⟩ := S.within_iff.1 hw
    have hc : S.cut bs off len = ((bs.drop off.toNat).take len.toNat, 0) := by unfold S.cut; rw [if_neg (by simp [hw])]
    rw [hc] at hvl o2 ⊢
    simp only at hvl o2 ⊢
    refine cond_i (fun h => by simp at h) (fun _ => ?_)
    refine cut_s o2.rd (by simp; omega) hi hn fun u w3 e3 o3 => ?_
    have hul := OwnB.len o3
    refine lawWithin_s hi hn hl ?_
    have hsl : (((bs.drop off.toNat).take len.toNat).length : Int) = len := by simp; omega
    refine cond_i (fun h => ?_) (fun h => ?_)
    · have hw2 : S.within i n len = false := by simpa using h
      have hc2 : S.cut ((bs.drop off.toNat).take len.toNat) i n = ([], 10) := by unfold S.cut; rw [if_pos (by rw [hsl]; exact hw2)]
      rw [hc2] at hul ⊢
      have : ((10 : Int) == 10 && ((u.len : Int) == 0)) = true := by simp [hul]
      simp only at this ⊢
      rw [this]
      exact hK _ (e12.trans e3)
    · have hw2 : S.within i n len = true := by simpa using h
      obtain ⟨g1, g2, g3, g4, g5⟩ := S.within_iff.1 hw2
      have hc2 : S.cut ((bs.drop off.toNat).take len.toNat) i n = ((((bs.drop off.toNat).take len.toNat).drop i.toNat).take n.toNat, 0) := by unfold S.cut; rw [if_neg (by rw [hsl]; simp [hw2])]
      rw [hc2] at hul o3 ⊢
      simp only at hul o3 ⊢
      rw [wrap_i64 (by omega) (by omega)]
      have hw3 : S.within (off + i) n bs.length = true := S.within_iff.2 (by omega)
      have hc3 : S.cut bs (off + i) n = ((bs.drop (off + i).toNat).take n.toNat, 0) := by unfold S.cut; rw [if_neg (by simp [hw3])]
      refine cut_s (hs1.ext (e2.trans e3)) (by omega) (by constructor <;> omega) hn fun t w4 e4 o4 => ?_
      rw [hc3] at o4 ⊢
      simp only at o4 ⊢
      refine join_i (fun b w' => b = true ∧ w' = w4) ?_ fun J hJ => ?_
      · rintro b w' ⟨rfl, rfl⟩
        exact hK _ ((e12.trans e3).trans e4)
      · refine cond_i (fun _ => ?_) (fun h => by simp at h)
        refine b2s_i (o3.ext e4).rd ?_
        refine b2s_i o4.rd ?_
        refine hJ _ _ ⟨?_, rfl⟩
        simp only [str_toList, beq_iff_eq]
        rw [List.drop_take, List.take_take, List.drop_drop, Nat.min_eq_left (by omega)]
        congr 2
        omega
  · have hw' : S.within off len bs.length = false := by simpa using hw
    have hc : S.cut bs off len = ([], 10) := by unfold S.cut; rw [if_pos hw']
    rw [hc] at hvl ⊢
    refine cond_i (fun _ => ?_) (fun h => by simp at h)
    have : ((v.len : Int) == 0) = true := by simp [hvl]
    rw [this]
    exact hK _ e12

theorem SpanOrder_s {a b size : Int} {K : Bool → World → Prop} {w : World} (ha : S.I64 a) (hb : S.I64 b) (hz : S.I64 size) (hK : ∀ w', Ext w w' → K true w') :
    callS Try.prog 4 #[.int .i64 a, .int .i64 b, .int .i64 size] [.one .bool] K w := by
  refine f4_ok ?_
  unfold f4
  refine anchor_s fun w1 e1 => ?_
  refine cond_i (fun h => by cases h) (fun _ => ?_)
  refine put_s (s := Sl.nil) (bs := []) (Rd.nilSl _ _) (by simp) hz ha fun u w2 e2 o2 => ?_
  refine put_s (s := Sl.nil) (bs := []) (Rd.nilSl _ _) (by simp) hz hb fun v w3 e3 o3 => ?_
  have e := (e1.trans e2).trans e3
  refine cond_i (fun h => hK _ e) (fun h => ?_)
  have hok : (S.put [] size a).2 = 0 ∧ (S.put [] size b).2 = 0 := by simpa using h
  obtain ⟨z1, z8, a0, ar, ap⟩ := S.put_ok hok.1
  obtain ⟨_, _, b0, br, bp⟩ := S.put_ok hok.2
  rw [ap] at o2
  rw [bp] at o3
  have o2' := o2.ext e3
  simp only [List.nil_append] at o2' o3
  obtain ⟨a, rfl⟩ : ∃ m : Nat, a = m := ⟨a.toNat, by omega⟩
  obtain ⟨b, rfl⟩ : ∃ m : Nat, b = m := ⟨b.toNat, by omega⟩
  obtain ⟨z, rfl⟩ : ∃ m : Nat, size = m := ⟨size.toNat, by omega⟩
  simp only [Int.toNat_natCast] at o2' o3 ar br
  have ra : a < 256 ^ z := S.room (by omega) (by omega) fun h8 => by have := ar (by omega); rw [S.pow_int] at this; omega
  have rb : b < 256 ^ z := S.room (by omega) (by omega) fun h8 => by have := br (by omega); rw [S.pow_int] at this; omega
  refine b2s_i o2'.rd ?_
  refine b2s_i o3.rd ?_
  have l1 : Op.bytesLess (S.be z a) (S.be z b) = decide ((a : Int) < b) := by
    rw [S.bytesLess_be z _ _ (S.be_length _ _) (S.be_length _ _), S.beN_be _ _ ra, S.beN_be _ _ rb, decide_eq_decide]; omega
  refine join_i (fun b w' => b = true ∧ w' = w3) ?_ fun J hJ => ?_
  · rintro b w' ⟨rfl, rfl⟩
    exact hK _ e
  · refine cond_i (fun _ => ?_) (fun h => by simp only [str_toList, l1] at h; simp at h)
    refine b2s_i o2'.rd ?_
    refine b2s_i o3.rd ?_
    refine hJ _ _ ⟨?_, rfl⟩
    simp only [str_toList]
    rw [beq_iff_eq, Bool.eq_iff_iff]
    simp only [beq_iff_eq]
    rw [S.beN_inj (by simp [S.be_length]), S.beN_be _ _ ra, S.beN_be _ _ rb]
    omega
end Go.Proofs.Ytmmhnlojldedbaa
