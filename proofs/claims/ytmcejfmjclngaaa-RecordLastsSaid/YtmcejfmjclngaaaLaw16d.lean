/- Layer 16 (record): the document's reading of bytes; the law of parsing. -/
import Derived.Test.YtmcejfmjclngaaaLaw16c
set_option linter.unusedSimpArgs false
set_option linter.unusedVariables false
namespace Go.Proofs.Ytmcejfmjclngaaa
open Go Go.Eng

/-- The document's number in four bytes. -/
theorem refGet_s {s : Sl} {bs : List UInt8} {off : Nat} {K : Int → World → Prop} {w : World} (hs : Bts w s bs) (hl : off + 4 ≤ bs.length) (hlen : bs.length ≤ 1000) (hK : K (S.beN ((bs.drop off).take 4) : Int) w) :
    callS Try.prog 38 #[.slice s.a s.len s.cap, .int .i64 (off : Int), .int .i64 4] [.one (.int .i64)] K w := by
  refine f38_ok ?_
  unfold f38
  have hbl := Bts.len hs
  rw [wrap_i64 (x := (off : Int) + 4) (by omega) (by omega)]
  have hsl : ((bs.drop off).take 4).length = 4 := by simp; omega
  have hat : ∀ (i : Nat), i < 4 → bs[off + i]? = ((bs.drop off).take 4)[i]? := by intro i hi; simp [hi]
  generalize (bs.drop off).take 4 = sub at hsl hat hK
  refine loop_i (fun (x : Int × Int) w' => w' = w ∧ ∃ i : Nat, i ≤ 4 ∧ x.2 = off + i ∧ x.1 = (S.beN (sub.take i) : Int)) (fun x _ => (off + 4 - x.2).toNat) ⟨rfl, 0, by omega, by simp, rfl⟩ ?_
  rintro ⟨n, i'⟩ w' again ⟨rfl, i, hi, hxi, hxn⟩ hag
  simp only at hxi hxn
  subst hxi
  subst hxn
  dsimp only
  have hbn := S.beN_lt (sub.take i)
  have hpow : 256 ^ (sub.take i).length ≤ 256 ^ 4 := Nat.pow_le_pow_right (by omega) (by simp; omega)
  refine cond_i (fun hlt => ?_) (fun hge => ?_)
  · have hlt' : i < 4 := by simp at hlt; omega
    refine cond_i (fun h => ?_) (fun _ => ?_)
    · simp at h; omega
    · refine elem_i (x := ((sub[i]'(by omega)).toNat : Int)) hs (by omega) (by omega) (bytes_get? (by rw [show ((off : Int) + (i : Int)).toNat = off + i by omega, hat i hlt', List.getElem?_eq_getElem])) ?_
      have hb := (sub[i]'(by omega)).toNat_lt
      have hts : sub.take (i + 1) = sub.take i ++ [sub[i]'(by omega)] := by rw [List.take_succ_eq_append_getElem (by omega)]
      refine hag _ w' ⟨rfl, i + 1, by omega, ?_, ?_⟩ ?_
      · simp only [wrap_i64 (x := (off : Int) + i + 1) (by omega) (by omega)]; omega
      · simp only [hts, S.beN_snoc]
        rw [wrap_i64 (x := (S.beN (sub.take i) : Int) * 256) (by omega) (by omega), wrap_i64 (x := ((sub[i]'(by omega)).toNat : Int)) (by omega) (by omega), wrap_i64 (by omega) (by omega)]
        omega
      · simp only [wrap_i64 (x := (off : Int) + i + 1) (by omega) (by omega)]; omega
  · have hge' : i = 4 := by simp at hge; omega
    subst hge'
    rw [List.take_of_length_le (by omega)]
    exact hK

theorem refParse_s {s : Sl} {bs : List UInt8} {K : Int → Int → Bool → Int → Int → Bool → Int → World → Prop} {w : World} (hs : Bts w s bs) (hlen : bs.length ≤ 1000)
    (hK : ∀ w', Ext w w' → K (S.parse bs).1.p (S.parse bs).1.t (S.parse bs).1.g (S.parse bs).2.p (S.parse bs).2.t (S.parse bs).2.g (S.parseErr bs) w') :
    callS Try.prog 21 #[.slice s.a s.len s.cap] [.agg lR, .one (.int .i64)] K w := by
  refine f21_ok ?_
  unfold f21
  have hbl := Bts.len hs
  have hcap := hs.cap
  refine alloc_i fun g2 w2 e2 hg2 v2 => ?_
  have hs2 := hs.ext e2
  have err : ∀ (e : Int) (w3 : World), Ext w2 w3 → S.parseErr bs = e → e ≠ 0 →
      semU Try.prog (Instr.storeAt 36 (.pointer (some (at_ g2 0))) (.agg #[.int .i64 0, .int .i64 0, .bool false, .int .i64 0, .int .i64 0, .bool false])) (fun w =>
        ∃ v, (loadVar 36 (at_ g2 0)).run Try.prog w = .ok v w ∧ decR [.agg lR, .one (.int .i64)] (.tuple #[v, .int .i64 e]) K fun r => r w) w3 := fun e w3 h3 he hne => by
    refine stR_i (v2.ext h3) rfl fun w4 f4 v4 => ?_
    have hz : S.parse bs = (.zero, .zero) := by unfold S.parse; rw [if_neg (by rw [he]; exact hne)]
    have := hK w4 (Fr.own1 (e2.trans h3) f4 hg2)
    rw [hz, he] at this
    exact resR_i v4 this
  refine cond_i (fun h => ?_) (fun h => ?_)
  · have hl : bs.length ≠ 32 := by simp at h; omega
    exact err 10 w2 (Fr.refl _ _) (by unfold S.parseErr; rw [if_pos hl]) (by omega)
  · have hl : bs.length = 32 := by simp at h; omega
    obtain ⟨a, ha⟩ := hs.some (by omega)
    refine slHi_i (by omega) (by omega) ?_
    have c4 : Bts w2 (s.cut 1 0 (4 : Int).toNat) (bs.take 4) := by
      have := Bts.cut hs2 (l := 0) (hi := 4) (by omega) (by omega); simpa using this
    refine b2s_i c4 ?_
    rw [str_toList]
    have hmag : (ByteArray.mk #[0, 65, 66, 48]).toList = [0, 65, 66, 48] := by rw [ByteArray.toList_eq]
    rw [hmag]
    refine cond_i (fun h => ?_) (fun h => ?_)
    · have h4 : bs.take 4 ≠ [0, 65, 66, 48] := by simpa using h
      exact err 30 w2 (Fr.refl _ _) (by unfold S.parseErr; rw [if_neg (Classical.not_not.2 hl), if_pos h4]) (by omega)
    · have h4 : bs.take 4 = [0, 65, 66, 48] := by simpa using h
      refine elem_i (x := ((bs[4]'(by omega)).toNat : Int)) hs2 (by omega) (by omega) (by simpa using bytes_get (show 4 < bs.length by omega)) ?_
      have gd : ∀ (j : Nat) (hj : j < bs.length), bs.getD j 0 = bs[j] := fun j hj => by simp [hj]
      have ver : ∀ x : UInt8, (((x.toNat : Int) != 1) = true ↔ x ≠ 1) := fun x => by
        rw [bne_iff_ne]
        constructor
        · rintro h rfl; exact h rfl
        · intro h h2; exact h (UInt8.toNat_inj.1 (by show x.toNat = 1; omega))
      refine cond_i (fun h => ?_) (fun h => ?_)
      · have h5 : bs.getD 4 0 ≠ 1 := by rw [gd 4 (by omega)]; exact (ver _).1 h
        exact err 31 w2 (Fr.refl _ _) (by unfold S.parseErr; rw [if_neg (Classical.not_not.2 hl), if_neg (Classical.not_not.2 h4), if_pos h5]) (by omega)
      · have h5 : bs.getD 4 0 = 1 := by
          rw [gd 4 (by omega)]; exact Classical.not_not.1 fun hn => by have := (ver _).2 hn; rw [show (((bs[4]'(by omega)).toNat : Int) != 1) = false from h] at this; cases this
        refine ⟨fun x => Ext w2 x, Ext.drew _, ?_⟩
        refine slHiQ_i (by omega) (by omega) ?_
        refine refGet_s (off := 28) (hs2.ext (Ext.drew _)) (by omega) (by omega) ?_
        refine more_i (Ext.drew _) ?_
        have hdt : (bs.drop 28).take 4 = bs.drop 28 := List.take_of_length_le (by simp; omega)
        rw [hdt]
        have c28 : Bts w2.drew (s.cut 1 0 (28 : Int).toNat) (bs.take 28) := by
          have := Bts.cut (hs2.ext (Ext.drew _)) (l := 0) (hi := 28) (by omega) (by omega); simpa using this
        refine refSum_s c28 (by simp; omega) ?_
        have sumd : ∀ x y : Nat, (((x : Int) != (y : Int)) = true ↔ x ≠ y) := fun x y => by rw [bne_iff_ne]; omega
        refine cond_i (fun h => ?_) (fun h => ?_)
        · have h6 : S.beN (bs.drop 28) ≠ S.crc (bs.take 28) := (sumd _ _).1 h
          exact err 55 _ (Ext.drew _) (by unfold S.parseErr; rw [if_neg (Classical.not_not.2 hl), if_neg (Classical.not_not.2 h4), if_neg (Classical.not_not.2 h5), if_pos h6]) (by omega)
        · have h6 : S.beN (bs.drop 28) = S.crc (bs.take 28) := Classical.not_not.1 fun hn => by
            have := (sumd _ _).2 hn
            exact absurd (this.symm.trans h) (by simp)
          have d2 : Ext w2 w2.drew.drew := (Ext.drew w2).trans (Ext.drew _)
          refine ⟨fun x => Ext w2 x, d2, ?_⟩
          have rd : ∀ (j : Nat) (hj : j < bs.length) x, Ext w2 x → x.cell? (a.add j) = some (Lf.enc (.int .u8) (bs[j].toNat : Int)) := fun j hj x hx => (hs2.ext hx).cells a ha j _ (bytes_get hj)
          refine ixQ_i ha (by omega) (by omega) ?_
          refine ldQ_i (l := .int .u8) _ (rd 5 (by omega)) ?_
          refine ixQ_i ha (by omega) (by omega) ?_
          refine ldQ_i (l := .int .u8) _ (rd 6 (by omega)) ?_
          refine ixQ_i ha (by omega) (by omega) ?_
          refine ldQ_i (l := .int .u8) _ (rd 7 (by omega)) ?_
          refine ixQ_i ha (by omega) (by omega) ?_
          refine ldQ_i (l := .int .u8) _ (rd 9 (by omega)) ?_
          refine ixQ_i ha (by omega) (by omega) ?_
          refine ldQ_i (l := .int .u8) _ (rd 10 (by omega)) ?_
          refine ixQ_i ha (by omega) (by omega) ?_
          refine ldQ_i (l := .int .u8) _ (rd 11 (by omega)) ?_
          have hw : ∀ x : UInt8, IntKind.wrap .i64 (x.toNat : Int) = (x.toNat : Int) := fun x => by have := x.toNat_lt; exact wrap_i64 (by omega) (by omega)
          have hone : ∀ x : UInt8, ((x.toNat : Int) == 1) = (x == 1) := fun x => by
            rw [Bool.eq_iff_iff]
            simp only [beq_iff_eq]
            constructor
            · intro h; exact UInt8.toNat_inj.1 (by show x.toNat = 1; omega)
            · intro h; rw [h]; rfl
          have hh : ∀ (i : Nat) (hi : i + 2 < bs.length), S.halfAt bs i = ⟨IntKind.wrap .i64 ((bs[i]'(by omega)).toNat : Int), IntKind.wrap .i64 ((bs[i + 1]'(by omega)).toNat : Int), (((bs[i + 2]'(by omega)).toNat : Int) == 1)⟩ := fun i hi => by
            unfold S.halfAt
            rw [gd i (by omega), gd (i + 1) (by omega), gd (i + 2) (by omega), hw, hw, hone]
          refine alloc_i fun g5 w5 e5 hg5 v5 => ?_
          refine more_i (d2.trans e5) ?_
          refine stR_i v5 rfl fun w6 f6 v6 => ?_
          rw [← hh 5 (by omega), ← hh 9 (by omega)] at v6
          have e26 : Ext w2 w6 := d2.trans (Fr.own1 e5 f6 hg5)
          refine ⟨fun x => Ext w6 x, Ext.drew _, ?_⟩
          refine ldRQ_i (a := S.halfAt bs 5) (b := S.halfAt bs 9) (fun x hx => v6.ext hx) ?_
          refine refRightR_s fun w7 e7 => ?_
          have e67 := (Ext.drew w6).trans e7
          refine more_i e67 ?_
          have e27 := e26.trans e67
          refine cond_i (fun h => ?_) (fun h => ?_)
          · have h7 : S.rightAt bs = false := by unfold S.rightAt; revert h; cases ((S.halfAt bs 5).right && (S.halfAt bs 9).right) <;> simp
            exact err 12 w7 e27 (by unfold S.parseErr; rw [if_neg (Classical.not_not.2 hl), if_neg (Classical.not_not.2 h4), if_neg (Classical.not_not.2 h5), if_neg (Classical.not_not.2 h6), if_pos (.inl h7)]) (by omega)
          · have h7 : S.rightAt bs = true := by unfold S.rightAt; revert h; cases ((S.halfAt bs 5).right && (S.halfAt bs 9).right) <;> simp
            refine ldRQ_i (a := S.halfAt bs 5) (b := S.halfAt bs 9) (fun x hx => v6.ext hx) ?_
            refine b2sQ_i (fun x hx => hs2.ext (e26.trans hx)) ?_
            refine refBytes_s fun v w8 e8 o8 => ?_
            have e68 := e67.trans e8
            refine more2_i (fun x => Ext w8 x) (Fr.refl _ _) (fun x hx => e68.trans hx) ?_
            refine b2sQ_i (fun x hx => (o8.ext hx).rd) ?_
            rw [str_toList, str_toList]
            refine cond_i (fun h => ?_) (fun h => ?_)
            · have h8 : S.recB (S.halfAt bs 5) (S.halfAt bs 9) ≠ bs := by simpa using h
              exact err 12 w8 (e26.trans e68) (by unfold S.parseErr; rw [if_neg (Classical.not_not.2 hl), if_neg (Classical.not_not.2 h4), if_neg (Classical.not_not.2 h5), if_neg (Classical.not_not.2 h6), if_pos (.inr h8)]) (by omega)
            · have h8 : S.recB (S.halfAt bs 5) (S.halfAt bs 9) = bs := by simpa using h
              have hz : S.parseErr bs = 0 := S.parseErr_zero.2 ⟨hl, h4, h5, h6, h7, h8⟩
              refine ldR_i (v6.ext e68) ?_
              refine stR_i (v2.ext (e26.trans e68)) rfl fun w9 f9 v9 => ?_
              have := hK w9 (Fr.own1 (e2.trans (e26.trans e68)) f9 hg2)
              have hp : S.parse bs = (S.halfAt bs 5, S.halfAt bs 9) := by unfold S.parse; rw [if_pos hz]
              rw [hp, hz] at this
              exact resR_i v9 this

theorem RecordParses_s {s : Sl} {bs : List UInt8} {K : Bool → World → Prop} {w : World} (hs : Bts w s bs) (hK : ∀ w', Ext w w' → K true w') :
    callS Try.prog 6 #[.slice s.a s.len s.cap] [.one .bool] K w := by
  refine f6_ok ?_
  unfold f6
  refine anchor_s fun w1 e1 => ?_
  have hs1 := hs.ext e1
  have hbl := Bts.len hs1
  refine cond_i (fun h => by cases h) (fun _ => ?_)
  refine cond_i (fun h => hK _ e1) (fun h => ?_)
  have hlen : bs.length ≤ 200 := by simp at h; omega
  refine parse_s hs1 (by omega) fun w2 e2 => ?_
  refine alloc_i fun g3 w3 e3 hg3 v3 => ?_
  refine stR_i v3 rfl fun w4 f4 v4 => ?_
  have e14 := e2.trans (Fr.own1 e3 f4 hg3)
  refine refParse_s (hs1.ext e14) (by omega) fun w5 e5 => ?_
  refine alloc_i fun g6 w6 e6 hg6 v6 => ?_
  refine stR_i v6 rfl fun w7 f7 v7 => ?_
  have e47 := e5.trans (Fr.own1 e6 f7 hg6)
  refine ⟨fun x => Ext w7 x, Ext.drew _, ?_⟩
  refine cond_i (fun _ => ?_) (fun h => by simp at h)
  refine ldRQ_i (a := (S.parse bs).1) (b := (S.parse bs).2) (fun x hx => v4.ext (e47.trans hx)) ?_
  refine ldRQ_i (a := (S.parse bs).1) (b := (S.parse bs).2) (fun x hx => v7.ext hx) ?_
  refine model_s fun w8 e8 => ?_
  have e78 := (Ext.drew w7).trans e8
  refine more_i e78 ?_
  refine eqAQ_i (rls (S.parse bs).1 (S.parse bs).2) (rls (S.parse bs).1 (S.parse bs).2) (kR _ _) (kR _ _) ?_
  rw [eqR_refl]
  exact hK _ ((e1.trans e14).trans (e47.trans e78))
end Go.Proofs.Ytmcejfmjclngaaa
