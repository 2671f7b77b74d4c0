/- More laws of layer 1 over the contracts. -/
import Derived.Test.YtmmhnlojldedbaaLaw01a
import Derived.Test.YtmmhnlojldedbaaPure01b
set_option linter.unusedSimpArgs false
set_option linter.unusedVariables false
namespace Go.Proofs.Ytmmhnlojldedbaa
open Go Go.Eng

theorem lawWithin_s {a b c : Int} {K : Bool → World → Prop} {w : World} (ha : S.I64 a) (hb : S.I64 b) (hc : S.I64 c) (hK : K (S.within a b c) w) :
    callS Try.prog 15 #[.int .i64 a, .int .i64 b, .int .i64 c] [.one .bool] K w := by
  refine f15_ok ?_
  unfold f15
  refine cond_i (fun h => ?_) (fun h => ?_)
  · have : S.within a b c = false := by
      rw [Bool.eq_false_iff]; intro h2; have := S.within_iff.1 h2
      simp only [Bool.or_eq_true, decide_eq_true_eq] at h; omega
    rw [this] at hK; exact hK
  · have h' : 0 ≤ a ∧ 0 ≤ b ∧ 0 ≤ c ∧ a ≤ c := by simp only [Bool.or_eq_false_iff, decide_eq_false_iff_not] at h; omega
    have : decide ((IntKind.wrap .i64 (c - a)) ≥ b) = S.within a b c := by
      rw [wrap_i64 (by omega) (by omega), Bool.eq_iff_iff, S.within_iff]
      simp only [decide_eq_true_eq]; omega
    rw [this]; exact hK

theorem SpanGets_s {s : Sl} {bs : List UInt8} {off size : Int} {K : Bool → World → Prop} {w : World} (hs : Bts w s bs) (ho : S.I64 off) (hz : S.I64 size) (hK : ∀ w', Ext w w' → K true w') :
    callS Try.prog 7 #[.slice s.a s.len s.cap, .int .i64 off, .int .i64 size] [.one .bool] K w := by
  refine f7_ok ?_
  unfold f7
  refine anchor_s fun w1 e1 => ?_
  have hs1 := hs.ext e1
  have hK' : ∀ b, b = true → K b w1 := fun b hb => hb ▸ hK _ e1
  have hbl := Bts.len hs1
  refine cond_i (fun h => by cases h) (fun _ => ?_)
  refine cond_i (fun h => hK' _ rfl) (fun h => ?_)
  have hl : bs.length ≤ 2000 := by simp at h; omega
  refine get_s hs1 (by omega) ho hz ?_
  unfold S.get
  refine cond_i (fun h => ?_) (fun h => ?_)
  · rw [if_pos (by simpa using h)]; exact hK' _ rfl
  · have h0 : ¬ (size < 1 ∨ size > 8) := by simp only [Bool.or_eq_false_iff, decide_eq_false_iff_not] at h; omega
    rw [if_neg h0]
    refine lawWithin_s ho hz (by constructor <;> omega) ?_
    rw [show S.within off size (s.len : Int) = S.within off size bs.length by rw [hbl]]
    refine cond_i (fun h => ?_) (fun h => ?_)
    · rw [if_pos (by simpa using h)]; exact hK' _ rfl
    · have h' : S.within off size bs.length = true := by simpa using h
      rw [if_neg (by simp [h'])]
      obtain ⟨h1, h2, h3, h4, h5⟩ := S.within_iff.1 h'
      have hsl : ((bs.drop off.toNat).take size.toNat).length = size.toNat := by simp; omega
      have hat : ∀ (i : Nat), i < size.toNat → bs[off.toNat + i]? = ((bs.drop off.toNat).take size.toNat)[i]? := by
        intro i hi; simp [hi]
      generalize (bs.drop off.toNat).take size.toNat = sub at hsl hat ⊢
      refine join_i (fun b w' => w' = w1 ∧ b = decide (S.beN sub ≥ 9223372036854775808)) ?_ fun J hJ => ?_
      · rintro b w' ⟨rfl, hb⟩
        refine cond_i (fun h => ?_) (fun h => ?_)
        · rw [h] at hb
          rw [if_pos (by simpa using hb.symm)]; exact hK' _ rfl
        · rw [h] at hb
          have hsm : ¬ S.beN sub ≥ 9223372036854775808 := by simpa using hb.symm
          rw [if_neg hsm]
          refine loop_i (fun (x : Int × Int) w2 => w2 = w' ∧ ∃ i : Nat, i ≤ sub.length ∧ x.2 = i ∧ x.1 = (S.beN (sub.take i) : Int)) (fun x _ => sub.length - x.2.toNat) ⟨rfl, 0, by omega, rfl, rfl⟩ ?_
          rintro ⟨n, i'⟩ w2 again ⟨rfl, i, hi, hxi, hxn⟩ hag
          simp only at hxi hxn
          subst hxi
          subst hxn
          dsimp only
          refine cond_i (fun hlt => ?_) (fun hge => ?_)
          · have hlt' : i < sub.length := by simp at hlt; omega
            rw [wrap_i64 (x := off + i) (by omega) (by omega)]
            refine elem_i (x := ((sub[i]).toNat : Int)) hs1 (by omega) (by omega) (bytes_get? (by rw [show (off + (i : Int)).toNat = off.toNat + i by omega, hat i (by omega), List.getElem?_eq_getElem])) ?_
            have hts : sub.take (i + 1) = sub.take i ++ [sub[i]] := by rw [List.take_succ_eq_append_getElem hlt']
            have hb := sub[i].toNat_lt
            have hle := S.beN_take_le sub (i + 1)
            have hsn := S.beN_snoc (sub.take i) sub[i]
            rw [← hts] at hsn
            refine hag _ w2 ⟨rfl, i + 1, by omega, ?_, ?_⟩ ?_
            · simp only [wrap_i64 (x := (i : Int) + 1) (by omega) (by omega)]; omega
            · simp only [wrap_i64 (x := 256 * (S.beN (sub.take i) : Int)) (by omega) (by omega), wrap_i64 (x := (sub[i].toNat : Int)) (by omega) (by omega)]
              rw [wrap_i64 (by omega) (by omega)]; omega
            · simp only [wrap_i64 (x := (i : Int) + 1) (by omega) (by omega)]; omega
          · have hge' : i = sub.length := by simp at hge; omega
            subst hge'
            rw [List.take_length]
            exact hK' _ (by simp)
      · refine cond_i (fun h => ?_) (fun h => ?_)
        · have h8 : size = 8 := by simpa using h
          have hs8 : sub.length = 8 := by omega
          refine elem_i (x := ((sub[0]'(by omega)).toNat : Int)) hs1 (by omega) (by omega) (bytes_get? (by have := hat 0 (by omega); rw [Nat.add_zero] at this; rw [this, List.getElem?_eq_getElem])) ?_
          refine hJ _ _ ⟨rfl, ?_⟩
          rw [decide_eq_decide, S.beN_eight hs8]
          have : ∀ c : Nat, (c : Int) > 127 ↔ c > 127 := fun c => by omega
          exact this _
        · have h8 : size ≠ 8 := by simpa using h
          refine hJ _ _ ⟨rfl, ?_⟩
          have := S.beN_small (bs := sub) (by omega)
          simp; omega

theorem SpanPuts_s {s : Sl} {bs : List UInt8} {size n : Int} {K : Bool → World → Prop} {w : World} (hs : Bts w s bs) (hz : S.I64 size) (hn : S.I64 n) (hK : ∀ w', Ext w w' → K true w') :
    callS Try.prog 8 #[.slice s.a s.len s.cap, .int .i64 size, .int .i64 n] [.one .bool] K w := by
  refine f8_ok ?_
  unfold f8
  refine anchor_s fun w1 e1 => ?_
  have hs1 := hs.ext e1
  have hbl := Bts.len hs1
  refine cond_i (fun h => by cases h) (fun _ => ?_)
  refine cond_i (fun h => hK _ e1) (fun h => ?_)
  have hl : bs.length ≤ 2000 := by simp at h; omega
  refine put_s hs1 (by omega) hz hn fun v w2 e2 o2 => ?_
  have hK' : ∀ b, b = true → K b w2 := fun b hb => hb ▸ hK _ (e1.trans e2)
  have hvl := OwnB.len o2
  refine cond_i (fun h => ?_) (fun h => ?_)
  · have hp : S.put bs size n = ([], 12) := by unfold S.put; rw [if_pos (by simpa using h)]
    rw [hp] at hvl ⊢
    exact hK' _ (by simp [hvl])
  · have h0 : ¬ (size < 1 ∨ size > 8) := by simp only [Bool.or_eq_false_iff, decide_eq_false_iff_not] at h; omega
    refine loop_i (fun (x : Int × Int) w3 => w3 = w2 ∧ ∃ k : Nat, k ≤ size.toNat ∧ x.2 = k ∧ (0 ≤ n → x.1 = n / 256 ^ k)) (fun x _ => size.toNat - x.2.toNat) ⟨rfl, 0, by omega, rfl, by simp⟩ ?_
    rintro ⟨r, i'⟩ w3 again ⟨rfl, k, hk, hxi, hxr⟩ hag
    simp only at hxi hxr
    subst hxi
    dsimp only
    refine cond_i (fun hlt => ?_) (fun hge => ?_)
    · have hlt' : k < size.toNat := by simp at hlt; omega
      refine hag _ w3 ⟨rfl, k + 1, by omega, ?_, fun h0 => ?_⟩ ?_
      · simp only [wrap_i64 (x := (k : Int) + 1) (by omega) (by omega)]; omega
      · simp only [hxr h0]
        have hq0 : 0 ≤ n / 256 ^ k := Int.ediv_nonneg h0 (Int.pow_nonneg (by omega))
        have hq1 : n / 256 ^ k ≤ n := Int.ediv_le_self _ h0
        rw [Int.tdiv_eq_ediv_of_nonneg hq0, Int.pow_succ, ← Int.ediv_ediv_of_nonneg (Int.pow_nonneg (by omega))]
        generalize n / 256 ^ k = q at *
        rw [wrap_i64 (by omega) (by omega)]
      · simp only [wrap_i64 (x := (k : Int) + 1) (by omega) (by omega)]; omega
    · have hk' : k = size.toNat := by simp at hge; omega
      subst hk'
      have hbig : 0 ≤ n → size = 8 → n / 256 ^ size.toNat = 0 := fun hn0 h8 => by
        subst h8
        exact Int.ediv_eq_zero_of_lt hn0 (by show n < 256 ^ 8; omega)
      refine cond_i (fun h => ?_) (fun h => ?_)
      · have hp : S.put bs size n = ([], 11) := by
          unfold S.put; rw [if_neg h0, if_pos]
          by_cases hn0 : n < 0
          · exact .inl hn0
          · have hr := hxr (by omega)
            subst hr
            have h2 : n / 256 ^ size.toNat ≠ 0 := by simpa [hn0] using h
            exact .inr ⟨by have := hbig (by omega); omega, h2⟩
        rw [hp] at hvl ⊢
        exact hK' _ (by simp [hvl])
      · have hn0 : ¬ n < 0 ∧ r = 0 := by simpa using h
        have hr := hxr (by omega)
        have hp : S.put bs size n = (bs ++ S.be size.toNat n.toNat, 0) := by
          unfold S.put; rw [if_neg h0, if_neg]; omega
        rw [hp] at hvl o2 ⊢
        obtain ⟨m, rfl⟩ : ∃ m : Nat, n = m := ⟨n.toNat, by omega⟩
        obtain ⟨z, rfl⟩ : ∃ z : Nat, size = z := ⟨size.toNat, by omega⟩
        have hroom : m < 256 ^ z := S.room (by omega) (by omega) (fun _ => by have := hn0.2; rw [hr] at this; have e := S.pow_int m z; simp only [Int.toNat_natCast] at this; omega)
        rw [show (Value.int .i64 (s.len : Int)) = Value.int .i64 (bs.length : Int) by rw [hbl]]
        refine get_s o2.rd (by simp [S.be_length]; omega) (by constructor <;> omega) hz ?_
        have hg := S.get_put bs z m (by omega) (by omega) hroom (by omega)
        simp only [Int.toNat_natCast] at hg ⊢ hvl
        rw [hg]
        refine ⟨fun w' => Ext w3 w', Ext.drew _, ?_⟩
        have hd := (e1.trans e2).trans (Ext.drew w3)
        refine cond_i (fun h => ?_) (fun h => by simp at h)
        rw [wrap_i64 (by omega) (by omega)]
        refine cond_i (fun h => ?_) (fun h => by rw [hvl, List.length_append, S.be_length] at h; simp [hbl] at h)
        refine slHiQ_i (by omega) (by have := o2.cap; simp [S.be_length] at hvl; omega) ?_
        refine b2sQ_i (bs := bs) (fun w' hw' => ?_) ?_
        · have := Bts.cut (o2.rd.ext hw') (l := 0) (hi := bs.length) (by omega) (by simp)
          simpa using this
        · refine b2sQ_i (bs := bs) (fun w' hw' => hs1.ext (e2.trans hw')) ?_
          refine cond_i (fun h => ?_) (fun h => by simp at h)
          refine cond_i (fun h => ?_) (fun h => by simp at h)
          simp only [beq_self_eq_true]
          exact hK _ hd
end Go.Proofs.Ytmmhnlojldedbaa
