/- The last law of layer 1 over the contracts: pads. -/
import Derived.Test.YtmmhnlojldedbaaLaw01c
set_option linter.unusedSimpArgs false
set_option linter.unusedVariables false
namespace Go.Proofs.Ytmmhnlojldedbaa
open Go Go.Eng

theorem pad_ok {bs : List UInt8} {to : Int} (hb : bs.length ≤ 2000) (h : ¬ (to < 1 ∨ to > 65536)) :
    ∃ k : Nat, S.pad bs to = (bs ++ List.replicate k 0, 0) ∧ (k : Int) < to ∧ ((bs.length : Int) + k) % to = 0 := by
  have ha : S.align bs.length to = (((bs.length : Int) + to - 1) / to * to, 0) := by
    unfold S.align
    rw [if_neg (by omega), if_neg (by omega), if_pos]
    have := Int.ediv_mul_le ((bs.length : Int) + to - 1) (show to ≠ 0 by omega)
    omega
  have h2 := Int.mul_ediv_add_emod ((bs.length : Int) + to - 1) to
  have h3 := Int.emod_nonneg ((bs.length : Int) + to - 1) (show to ≠ 0 by omega)
  have h4 := Int.emod_lt_of_pos ((bs.length : Int) + to - 1) (show 0 < to by omega)
  have h5 : to * (((bs.length : Int) + to - 1) / to) = ((bs.length : Int) + to - 1) / to * to := Int.mul_comm _ _
  refine ⟨(((bs.length : Int) + to - 1) / to * to).toNat - bs.length, ?_, ?_, ?_⟩
  · unfold S.pad
    rw [ha, if_neg (by simp)]
  · omega
  · have : (bs.length : Int) + (((((bs.length : Int) + to - 1) / to * to).toNat - bs.length : Nat) : Int) = ((bs.length : Int) + to - 1) / to * to := by omega
    rw [this]
    exact Int.mul_emod_left _ _

theorem SpanPads_s {s : Sl} {bs : List UInt8} {to : Int} {K : Bool → World → Prop} {w : World} (hs : Bts w s bs) (ht : S.I64 to) (hK : ∀ w', Ext w w' → K true w') :
    callS Try.prog 10 #[.slice s.a s.len s.cap, .int .i64 to] [.one .bool] K w := by
  refine f10_ok ?_
  unfold f10
  refine anchor_s fun w1 e1 => ?_
  have hs1 := hs.ext e1
  have hbl := Bts.len hs1
  refine cond_i (fun h => by cases h) (fun _ => ?_)
  refine cond_i (fun h => hK _ e1) (fun h => ?_)
  have hlen : bs.length ≤ 2000 := by simp at h; omega
  refine pad_s hs1 (by omega) ht fun v w2 e2 o2 => ?_
  have hs2 := hs1.ext e2
  refine loop_i (fun (x : Bool × Int) w' => w' = w2 ∧ ∃ i : Nat, i ≤ bs.length ∧ x.2 = i ∧ x.1 = S.zeros (bs.take i)) (fun x _ => bs.length - x.2.toNat) ⟨rfl, 0, by omega, rfl, rfl⟩ ?_
  rintro ⟨z, i'⟩ w' again ⟨rfl, i, hi, hxi, hxn⟩ hag
  simp only at hxi hxn
  subst hxi
  subst hxn
  dsimp only
  refine cond_i (fun hlt => ?_) (fun hge => ?_)
  · have hlt' : i < bs.length := by simp at hlt; omega
    refine elem_i (x := ((bs[i]).toNat : Int)) hs2 (by omega) (by omega) (by simpa using bytes_get hlt') ?_
    refine hag _ w' ⟨rfl, i + 1, by omega, ?_, ?_⟩ ?_
    · simp only [wrap_i64 (x := (i : Int) + 1) (by omega) (by omega)]; omega
    · simp only [List.take_succ_eq_append_getElem hlt', S.zeros, List.all_append, List.all_cons, List.all_nil, Bool.and_true]
      congr 1
      rw [Bool.eq_iff_iff]
      have e1 : ((bs[i].toNat : Int) == 0) = true ↔ bs[i] = 0 := by
        rw [beq_iff_eq]
        constructor
        · intro h; exact UInt8.toNat_inj.1 (by show bs[i].toNat = 0; omega)
        · intro h; rw [h]; rfl
      exact e1.trans (by simp)
    · simp only [wrap_i64 (x := (i : Int) + 1) (by omega) (by omega)]; omega
  · have hge' : i = bs.length := by simp at hge; omega
    subst hge'
    rw [List.take_length]
    refine zeros_s hs2 (by omega) ?_
    refine cond_i (fun h => by simp at h) (fun _ => ?_)
    have hvl := OwnB.len o2
    refine cond_i (fun h => ?_) (fun h => ?_)
    · have hp : S.pad bs to = ([], 12) := by
        unfold S.pad
        have : S.align bs.length to = (0, 12) := by unfold S.align; rw [if_pos (by simp only [Bool.or_eq_true, decide_eq_true_eq] at h; omega)]
        rw [this, if_pos (by simp)]
      rw [hp] at hvl ⊢
      have : ((12 : Int) == 12 && ((v.len : Int) == 0)) = true := by simp [hvl]
      simp only at this ⊢
      rw [this]
      exact hK _ (e1.trans e2)
    · obtain ⟨k, hp, hk, hm⟩ := pad_ok hlen (by simp only [Bool.or_eq_false_iff, decide_eq_false_iff_not] at h; omega : ¬ (to < 1 ∨ to > 65536))
      have hto : 1 ≤ to ∧ to ≤ 65536 := by simp only [Bool.or_eq_false_iff, decide_eq_false_iff_not] at h; omega
      rw [hp] at hvl o2 ⊢
      simp only at hvl o2 ⊢
      have hvl' : v.len = bs.length + k := by simpa using hvl
      refine ⟨fun x => Ext w' x, Ext.drew _, ?_⟩
      refine cond_i (fun _ => ?_) (fun h => by simp at h)
      refine remQ_i (by omega) ?_
      have hmod : Int.tmod (v.len : Int) to = 0 := by
        rw [Int.tmod_eq_emod_of_nonneg (by omega), hvl']
        rw [← hm]; congr 1
      rw [hmod]
      refine cond_i (fun _ => ?_) (fun h => by simp at h)
      refine cond_i (fun _ => ?_) (fun h => absurd h (by simp; omega))
      rw [wrap_i64 (by omega) (by omega)]
      refine cond_i (fun _ => ?_) (fun h => absurd h (by simp; omega))
      refine slHiQ_i (by omega) (by have := o2.cap; omega) ?_
      refine b2sQ_i (bs := bs) (fun x hx => ?_) ?_
      · have := Bts.cut (o2.rd.ext hx) (l := 0) (hi := bs.length) (by omega) (by simp)
        have e : ((s.len : Int)).toNat = bs.length := by omega
        rw [e]
        simpa using this
      · refine b2sQ_i (bs := bs) (fun x hx => hs2.ext hx) ?_
        refine cond_i (fun _ => ?_) (fun h => by simp at h)
        refine slLoQ_i (by omega) (by omega) ?_
        have hcut : Bts w'.drew (v.cut 1 ((s.len : Int)).toNat v.len) (List.replicate k 0) := by
          have := Bts.cut (o2.rd.ext (Ext.drew w')) (l := bs.length) (hi := v.len) (by omega) (by simp; omega)
          have e : ((s.len : Int)).toNat = bs.length := by omega
          rw [e]
          rw [List.drop_left, List.take_of_length_le (by simp; omega)] at this
          exact this
        refine zeros_s hcut (by simp; omega) ?_
        have hz : S.zeros (List.replicate k 0) = true := by simp [S.zeros]
        rw [hz]
        refine cond_i (fun _ => ?_) (fun h => by cases h)
        refine zeros_s (o2.rd.ext (Ext.drew w')) (by simp; omega) ?_
        have : (S.zeros (bs ++ List.replicate k 0) == S.zeros bs) = true := by simp [S.zeros]
        rw [this]
        exact hK _ ((e1.trans e2).trans (Ext.drew _))
end Go.Proofs.Ytmmhnlojldedbaa
