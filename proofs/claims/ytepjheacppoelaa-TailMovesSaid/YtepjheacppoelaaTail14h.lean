/- Layer 14 (tail): the law TailLoads. -/
import Derived.Test.YtepjheacppoelaaTail14g
set_option linter.unusedSimpArgs false
set_option linter.unusedVariables false
namespace Go.S
open Go Go.Eng
theorem badIn_iff {A : Area} {off len : Int} : A.badIn off len = true ↔ ∃ s : Int, off / 64 ≤ s ∧ s < off / 64 + nS off len ∧ A.bad s = true := by
  unfold Area.badIn
  rw [List.any_eq_true]
  constructor
  · rintro ⟨k, hk, hb⟩
    rw [List.mem_range] at hk
    exact ⟨off / 64 + k, by omega, by omega, hb⟩
  · rintro ⟨s, h1, h2, hb⟩
    refine ⟨(s - off / 64).toNat, List.mem_range.2 (by omega), ?_⟩
    rw [show off / 64 + (((s - off / 64).toNat : Nat) : Int) = s by omega]; exact hb
theorem loadP_err {A : Area} (h : (loadP A).2.2 ≠ 0) : (loadP A).1 = [] ∧ (loadP A).2.1 = .zero := by
  unfold loadP at h ⊢
  split
  · exact ⟨rfl, rfl⟩
  · rename_i h1
    rw [if_neg h1] at h
    split
    · exact ⟨rfl, rfl⟩
    · rename_i h2
      rw [if_neg h2] at h
      split
      · exact ⟨rfl, rfl⟩
      · rename_i h3
        rw [if_neg h3] at h
        split
        · exact ⟨rfl, rfl⟩
        · rename_i h4
          rw [if_neg h4] at h; exact absurd rfl h
theorem loadP_ok {A : Area} (h : (loadP A).2.2 = 0) : tErr (A.b.drop (A.b.length - 64)) = 0 ∧ within (tAt (A.b.drop (A.b.length - 64))).o (tAt (A.b.drop (A.b.length - 64))).s ((A.b.length : Int) - 64) = true ∧
    loadP A = ((A.b.drop (tAt (A.b.drop (A.b.length - 64))).o.toNat).take (tAt (A.b.drop (A.b.length - 64))).s.toNat, tAt (A.b.drop (A.b.length - 64)), 0) := by
  unfold loadP at h ⊢
  split at h
  · simp at h
  · rename_i h1
    split at h
    · rename_i h2; exact absurd h h2
    · rename_i h2
      split at h
      · simp at h
      · rename_i h3
        split at h
        · simp at h
        · rename_i h4
          rw [if_neg h1, if_neg h2, if_neg h3, if_neg h4]
          exact ⟨Classical.not_not.1 h2, by
            cases hw : within (tAt (A.b.drop (A.b.length - 64))).o (tAt (A.b.drop (A.b.length - 64))).s ((A.b.length : Int) - 64) with
            | true => rfl
            | false => exact absurd hw h3, rfl⟩
theorem tErr_right {bs : List UInt8} (h : tErr bs = 0) : (tAt bs).right = true := by
  unfold tErr at h
  split at h
  · simp at h
  · split at h
    · simp at h
    · split at h
      · simp at h
      · split at h
        · simp at h
        · rename_i hx
          cases hy : (tAt bs).right with
          | true => rfl
          | false => exact absurd (Or.inl hy) hx
/-- What the document wants of a load. -/
def wantL (b : List UInt8) (bad : Int) : Int :=
  if bad = (b.length : Int) / 64 - 1 then 41 else if tErr (b.drop (b.length - 64)) ≠ 0 then tErr (b.drop (b.length - 64))
  else if (tAt (b.drop (b.length - 64))).s > (b.length : Int) - 64 ∨ (tAt (b.drop (b.length - 64))).o > (b.length : Int) - 64 - (tAt (b.drop (b.length - 64))).s then 13
  else if (tAt (b.drop (b.length - 64))).o / 64 ≤ bad ∧ bad ≤ ((tAt (b.drop (b.length - 64))).o + (tAt (b.drop (b.length - 64))).s - 1) / 64 then 41 else 0
theorem want {nm b : List UInt8} {f : Int → Bool} {bad : Int} (h64 : b.length % 64 = 0) (hN : 64 ≤ b.length) (hf : ∀ s, f s = decide (s = bad ∧ 0 ≤ bad ∧ bad < (b.length : Int) / 64)) : (loadP ⟨nm, b, f⟩).2.2 = wantL b bad := by
  have hb1 : (Area.mk nm b f).badIn ((b.length : Int) - 64) 64 = true ↔ bad = (b.length : Int) / 64 - 1 := by
    rw [badIn_iff]
    have : nS ((b.length : Int) - 64) 64 = 1 := by unfold nS; rw [if_neg (by omega)]; omega
    rw [this]
    constructor
    · rintro ⟨s, h1, h2, h3⟩
      rw [show (Area.mk nm b f).bad s = f s from rfl, hf, decide_eq_true_eq] at h3
      omega
    · intro h
      refine ⟨bad, by omega, by omega, ?_⟩
      rw [show (Area.mk nm b f).bad bad = f bad from rfl, hf, decide_eq_true_eq]
      omega
  unfold loadP wantL
  show (if (Area.mk nm b f).badIn ((b.length : Int) - 64) 64 = true then _ else if tErr (b.drop (b.length - 64)) ≠ 0 then _ else if within (tAt (b.drop (b.length - 64))).o (tAt (b.drop (b.length - 64))).s ((b.length : Int) - 64) = false then _ else if (Area.mk nm b f).badIn (tAt (b.drop (b.length - 64))).o (tAt (b.drop (b.length - 64))).s = true then _ else _ : List UInt8 × Tl × Int).2.2 = _
  by_cases h1 : bad = (b.length : Int) / 64 - 1
  · rw [if_pos (hb1.2 h1), if_pos h1]
  · rw [if_neg (fun h => h1 (hb1.1 h)), if_neg h1]
    by_cases h2 : tErr (b.drop (b.length - 64)) ≠ 0
    · rw [if_pos h2, if_pos h2]
    · rw [if_neg h2, if_neg h2]
      have hti := tright_iff.1 (tErr_right (Classical.not_not.1 h2))
      generalize tAt (b.drop (b.length - 64)) = t at hti ⊢
      by_cases h3 : t.s > (b.length : Int) - 64 ∨ t.o > (b.length : Int) - 64 - t.s
      · rw [if_pos h3, if_pos]
        rw [Bool.eq_false_iff]
        intro hw
        have := within_iff.1 hw
        omega
      · rw [if_neg h3, if_neg (by rw [within_iff.2 (by omega)]; simp)]
        have hb2 : (Area.mk nm b f).badIn t.o t.s = true ↔ t.o / 64 ≤ bad ∧ bad ≤ (t.o + t.s - 1) / 64 := by
          rw [badIn_iff]
          have : nS t.o t.s = (t.o + t.s - 1) / 64 - t.o / 64 + 1 := by unfold nS; rw [if_neg (by omega)]
          rw [this]
          constructor
          · rintro ⟨s, q1, q2, q3⟩
            rw [show (Area.mk nm b f).bad s = f s from rfl, hf, decide_eq_true_eq] at q3
            omega
          · intro h
            refine ⟨bad, by omega, by omega, ?_⟩
            rw [show (Area.mk nm b f).bad bad = f bad from rfl, hf, decide_eq_true_eq]
            omega
        by_cases h4 : t.o / 64 ≤ bad ∧ bad ≤ (t.o + t.s - 1) / 64
        · rw [if_pos (hb2.2 h4), if_pos h4]
        · rw [if_neg (fun h => h4 (hb2.1 h)), if_neg h4]
theorem fit_bad {D : Drv} {n b : List UInt8} {i : Nat} {s : Int} (h : Fit D n i ⟨n, b, fun _ => false⟩) :
    (∃ f, Fit (D.badS n s true).2 n i ⟨n, b, f⟩ ∧ ∀ x, f x = decide (x = s ∧ 0 ≤ s ∧ s < (b.length : Int) / 64)) ∧ (∀ n', (D.badS n s true).2.at? n' = D.at? n') := by
  obtain ⟨ha, har, hd⟩ := h
  unfold Drv.badS
  rw [ha]
  simp only [har]
  by_cases hc : s < 0 ∨ s ≥ (b.length : Int) / 64
  · rw [if_pos hc]
    refine ⟨⟨fun _ => false, ⟨ha, har, hd⟩, fun x => ?_⟩, fun _ => rfl⟩
    symm
    rw [decide_eq_false_iff_not]
    omega
  · rw [if_neg hc]
    refine ⟨⟨fun k => if k = s then true else false, ⟨?_, ?_, hd⟩, fun x => ?_⟩, fun n' => ?_⟩
    · rw [Drv.at?_set (by rw [har]; rfl)]; exact ha
    · exact Drv.ar_set (Drv.at?_lt ha) _
    · by_cases hx : x = s
      · simp only [if_pos hx]; symm; rw [decide_eq_true_eq]; omega
      · simp only [if_neg hx]; symm; rw [decide_eq_false_iff_not]; omega
    · exact Drv.at?_set (by rw [har]; rfl) n'
theorem load_none {D : Drv} {n : List UInt8} (h : D.at? n = none) (hd : D.down = false) : tLoad D n = ([], .zero, 40, D) := by
  have hs : D.size n = (0, 40) := by unfold Drv.size; rw [h]
  unfold tLoad
  rw [hs, if_pos ⟨by decide, hd⟩]
end Go.S
namespace Go.Proofs.Ytepjheacppoelaa
open Go Go.Eng
theorem TailLoads_s {k bad : Int} {p1 p2 : Sl} {bs last : List UInt8} {K : Bool → World → Prop} {w : World} (hk : S.I64 k) (hb : Bts w p1 bs) (hl : Bts w p2 last) (hbad : S.I64 bad) (hK : ∀ w', Ext w w' → K true w') :
    callS Try.prog 8 #[.int .i64 k, .slice p1.a p1.len p1.cap, .slice p2.a p2.len p2.cap, .int .i64 bad] [.one .bool] K w := by
  refine f8_ok ?_
  unfold f8
  have hbl := Bts.len hb
  have hcap := hb.cap
  have hll := Bts.len hl
  refine anchor_s fun w1 e1 => ?_
  refine cond_i (fun h => by cases h) (fun _ => ?_)
  refine cond_i (fun _ => hK w1 e1) (fun hg => ?_)
  simp only [Bool.or_eq_false_iff, decide_eq_false_iff_not] at hg
  refine made_s hk (fun w' e h => ?_) fun gd L w2 e2 hm hgd hin d2 => ?_
  · refine ptrEq_i ?_
    exact cond_i (fun _ => hK w' (e1.trans e)) (fun h => by cases h)
  refine ptrEq_i ?_
  refine cond_i (fun h => by cases h) (fun _ => ?_)
  obtain ⟨hk1, hk2, hk3⟩ := S.made_one hm
  have own : ∀ {a b : World}, Ext w1 a → Fr (L.inD gd) a b → Ext w1 b := fun h1 h2 => Ext.own h1 h2 hin
  have own1 : ∀ {a b : World}, Ext w1 a → Fr (fun k => k = gd) a b → Ext w1 b := fun h1 h2 => Fr.own1 h1 h2 hgd
  have sep : ∀ {xs : List UInt8} {p : Sl}, Bts w1 p xs → xs ≠ [] → ∀ a, p.a = some a → ¬ L.inD gd a.block := fun h hne a ha hk => by
    have := rd_lt h (by simpa using hne) ha; have := hin _ hk; omega
  have hb1 := hb.ext e1
  have hl1 := hl.ext e1
  have hb0l : (List.replicate k.toNat (0 : UInt8)).length = k.toNat := List.length_replicate
  have fit0 := fit_one (b := List.replicate k.toNat 0) (bad := fun _ => false) (left := -1) (keep := []) (c := 0) (n := 0) (name := [112])
  have hleft0 : (S.one [112] (List.replicate k.toNat 0) (fun _ => false) (-1) [] false 0 0).left = -1 := rfl
  have noq0 : (S.one [112] (List.replicate k.toNat 0) (fun _ => false) (-1) [] false 0 0).at? [113] = none := by
    unfold S.Drv.at? S.one
    rw [List.findIdx?_cons]; rfl
  generalize S.one [112] (List.replicate k.toNat 0) (fun _ => false) (-1) [] false 0 0 = D0 at *
  generalize List.replicate k.toNat (0 : UInt8) = b0 at *
  obtain ⟨hi, hhi, hh1, hh2, hh3⟩ : ∃ hi : Int, (if k < (p1.len : Int) then k else (p1.len : Int)) = hi ∧ 0 ≤ hi ∧ hi ≤ p1.len ∧ hi ≤ k := ⟨_, rfl, by split <;> omega, by split <;> omega, by split <;> omega⟩
  rw [hhi]
  refine slHi_i hh1 (by omega) ?_
  have hc : Bts w1 (p1.cut 1 0 hi.toNat) (bs.take hi.toNat) := by
    have := Bts.cut hb1 (l := 0) (hi := hi.toNat) (by omega) (by omega); simpa using this
  have wr : ∀ {w3 : World} {D : S.Drv} {b xs : List UInt8} {off : Int} {p : Sl} {K : Int → World → Prop}, DriveAt w3 gd L D → S.Fit D [112] 0 ⟨[112], b, fun _ => false⟩ → D.left = -1 → D.at? [113] = none → S.within off xs.length b.length = true → S.I64 off → Bts w3 p xs → xs.length ≤ 68719476736 → (xs ≠ [] → ∀ a, p.a = some a → ¬ L.inD gd a.block) →
      (∀ w' D', Fr (L.inD gd) w3 w' → DriveAt w' gd L D' → S.Fit D' [112] 0 ⟨[112], S.over b xs off.toNat (fun _ => true), fun _ => false⟩ → D'.left = -1 → D'.at? [113] = none → K 0 w') →
      callS Try.prog 15 #[.pointer (some (at_ gd 0)), .string (ByteArray.mk #[112]), .int .i64 off, .slice p.a p.len p.cap] [.one (.int .i64)] K w3 := fun {w3 D b xs off p K} h hf hleft hq hw ho hp hbl hsep hK => by
    refine dWrite_s (name := ByteArray.mk #[112]) h ho hp hbl hsep fun w' f d => ?_
    rw [p_toList, hf.write (by omega) hw] at d ⊢
    simp only at d ⊢
    exact hK w' _ f d ((hf.set _).same rfl hf.dn) (by show max (D.left - 1) (-1) = -1; omega) ((S.Drv.at?_congr (D := D.set 0 ((S.Area.mk [112] b fun _ => false).setB (S.over b xs off.toNat fun _ => true))) rfl [113]).trans ((S.Drv.at?_set (by rw [hf.ar]; rfl) _).trans hq))
  refine wr d2 fit0 hleft0 noq0 (S.within_iff.2 (by rw [List.length_take]; omega)) ⟨by omega, by omega⟩ (hc.ext e2) (by rw [List.length_take]; omega) (sep hc) fun w3 D3 f3 d3 fit3 l3 q3 => ?_
  have hb3l : (S.over b0 (bs.take hi.toNat) (0 : Int).toNat fun _ => true).length = k.toNat := by rw [S.over_length]; exact hb0l
  generalize S.over b0 (bs.take hi.toNat) (0 : Int).toNat (fun _ => true) = b3 at fit3 hb3l
  have E3 := own e2 f3
  rw [wrap_i64 (x := k - 64) (by omega) (by omega)]
  refine wr d3 fit3 l3 q3 (S.within_iff.2 (by omega)) ⟨by omega, by omega⟩ (hl1.ext E3) (by omega) (sep hl1) fun w4 D4 f4 d4 fit4 l4 q4 => ?_
  have hb4l : (S.over b3 last (k - 64).toNat fun _ => true).length = k.toNat := by rw [S.over_length]; exact hb3l
  generalize S.over b3 last (k - 64).toNat (fun _ => true) = b4 at fit4 hb4l
  have E4 := own E3 f4
  refine fitRead_s (name := ByteArray.mk #[112]) d4 fit4 p_toList (S.within_iff.2 (by omega)) ⟨by omega, by omega⟩ hk fun v5 w5 D5 f5 d5 a5 l5 _ dn5 o5 => ?_
  rw [take_whole (by omega)] at o5
  have E5 := own1 E4 f5
  have fit5 := fit4.same a5 dn5
  have q5 : D5.at? [113] = none := by rw [S.Drv.at?_congr a5]; exact q4
  have hv5 : ∀ k, v5.inB k → ¬ L.inD gd k := fun k hk h => by have := (o5.inB hk).1; have := d4.lt h; omega
  refine dBad_s (name := ByteArray.mk #[112]) d5 hbad fun w6 f6 d6 => ?_
  rw [p_toList] at d6
  have E6 := own E5 f6
  have o6 := o5.fr f6 fun a ha h => hv5 _ ⟨a, ha, rfl⟩ h
  obtain ⟨⟨f, fit6, hf⟩, hq⟩ := S.fit_bad (s := bad) fit5
  have q6 : (D5.badS [112] bad true).2.at? [113] = none := by rw [hq]; exact q5
  generalize (D5.badS [112] bad true).2 = D6 at d6 fit6 q6
  have hwant := S.want (nm := [112]) (b := b4) (f := f) (bad := bad) (by omega) (by omega) hf
  refine fitLoad_s (name := ByteArray.mk #[112]) d6 fit6 p_toList (by show 64 ≤ b4.length; omega) fun v7 w7 D7 f7 d7 a7 l7 _ dn7 o7 => ?_
  have E7 := own1 E6 f7
  have q7 : D7.at? [113] = none := by rw [S.Drv.at?_congr a7]; exact q6
  have o67 := o6.fr f7 fun a ha h => hv5 _ ⟨a, ha, rfl⟩ (.inl h)
  have herr := S.loadP_err (A := ⟨[112], b4, f⟩)
  have hok := S.loadP_ok (A := ⟨[112], b4, f⟩)
  generalize hP : S.loadP ⟨[112], b4, f⟩ = P at *
  obtain ⟨r, t, e⟩ := P
  simp only at hwant herr hok o7 ⊢
  refine alloc_i fun g8 w8 e8 hg8 v8 => ?_
  refine stT_i v8 rfl fun w9 f9 v9 => ?_
  have v9 : Var w9 g8 (tls t) := v9
  have e79 := Fr.own1 e8 f9 hg8
  have o9 := o67.ext e79
  have hv5l := OwnB.len o5
  refine slLo_i (by omega) (by omega) ?_
  have hct : Bts w9 (v5.cut 1 (k - 64).toNat v5.len) (b4.drop (b4.length - 64)) := by
    have := Bts.cut o9.rd (l := (k - 64).toNat) (hi := v5.len) (by omega) (by omega)
    rw [show (k - 64).toNat = b4.length - 64 by omega] at this ⊢
    rw [List.take_of_length_le (by simp; omega)] at this
    exact this
  refine tparse_s hct (by simp; omega) fun w10 e10 => ?_
  refine alloc_i fun g11 w11 e11 hg11 v11 => ?_
  refine stT_i v11 rfl fun w12 f12 v12 => ?_
  have v12 : Var w12 g11 (tls (S.tParse (b4.drop (b4.length - 64)))) := v12
  have e912 := e10.trans (Fr.own1 e11 f12 hg11)
  have v9' := v9.ext e912
  have e712 := e79.trans e912
  refine join_i (fun (x : Int) w' => x = e ∧ w12 = w') ?_ fun J hJ => ?_
  · rintro x w' ⟨rfl, rfl⟩
    refine cond_i (fun h => by simp at h) (fun _ => ?_)
    refine cond_i (fun hx => ?_) (fun hx => ?_)
    · obtain ⟨hr, ht⟩ := herr (by simpa using hx)
      subst hr ht
      refine join_i (fun c w' => c = true ∧ w12 = w') (fun c w' ⟨h1, h2⟩ => by subst h1; subst h2; exact hK _ (e1.trans (E7.trans e712))) fun J hJ => ?_
      have hvl := OwnB.len o7
      refine cond_i (fun _ => ?_) (fun h => by rw [hvl] at h; simp at h)
      refine ldT_i v9' ?_
      refine eqA_i (tls .zero) (tls .zero) (kT _) (kT _) ?_
      rw [eqT_refl]
      exact hJ _ _ ⟨rfl, rfl⟩
    · have hx0 : x = 0 := by simpa using hx
      obtain ⟨hz, hw, hPP⟩ := hok hx0
      have hpp : S.tParse (b4.drop (b4.length - 64)) = S.tAt (b4.drop (b4.length - 64)) := by unfold S.tParse; rw [if_pos hz]
      have hrt : r = (b4.drop (S.tAt (b4.drop (b4.length - 64))).o.toNat).take (S.tAt (b4.drop (b4.length - 64))).s.toNat ∧ t = S.tAt (b4.drop (b4.length - 64)) := by
        have h1 := congrArg Prod.fst hPP
        have h2 := congrArg (fun q => q.2.1) hPP
        exact ⟨h1, h2⟩
      obtain ⟨hr, ht⟩ := hrt
      rw [hpp, ← ht] at v12
      rw [← ht] at hr hw
      have hwi := S.within_iff.1 hw
      refine tload_s (name := ByteArray.mk #[113]) (d7.ext e712) fun v13 w13 f13 d13 o13 => ?_
      rw [q_toList, S.load_none q7 dn7] at d13 o13 ⊢
      simp only at d13 o13 ⊢
      have hgd13 : g8 ≠ gd ∧ g11 ≠ gd := by
        have := d7.lt (.inl rfl : L.inD gd gd)
        have := (e79.trans e10).size
        omega
      have v913 := v9'.fr f13 hgd13.1
      have v1213 := v12.fr f13 hgd13.2
      have o713 := (o7.ext e712).fr f13 fun a ha h => by
        have := (o7.inB ⟨a, ha, rfl⟩).1; have := d6.lt (.inl h : L.inD gd _); omega
      have o613 := (o67.ext e712).fr f13 fun a ha h => hv5 _ ⟨a, ha, rfl⟩ (.inl h)
      refine alloc_i fun g14 w14 e14 hg14 v14 => ?_
      refine stT_i v14 rfl fun w15 f15 v15 => ?_
      have e1315 := Fr.own1 e14 f15 hg14
      have hd := Ext.drew w15
      refine ⟨fun x => Ext w15 x, hd, ?_⟩
      have v915 := v913.ext e1315
      have v1215 := v1213.ext e1315
      refine ldTQ_i (a := t) (fun x hx => v915.ext hx) ?_
      refine ldTQ_i (a := t) (fun x hx => v1215.ext hx) ?_
      refine eqAQ_i (tls t) (tls t) (kT _) (kT _) ?_
      rw [eqT_refl]
      refine cond_i (fun _ => ?_) (fun h => by cases h)
      refine b2sQ_i (fun x hx => (o713.ext (e1315.trans hx)).rd) ?_
      refine ld1Q_i (l := .int .i64) t.o (fun x hx => v1215.ext hx) rfl ?_
      refine ld1Q_i (l := .int .i64) t.o (fun x hx => v1215.ext hx) rfl ?_
      refine ld1Q_i (l := .int .i64) t.s (fun x hx => v1215.ext hx) rfl ?_
      rw [wrap_i64 (x := t.o + t.s) (by omega) (by omega)]
      have hcp := o613.rd.cap
      refine sl2Q_i (by omega) (by omega) (by omega) ?_
      refine b2sQ_i (bs := r) (fun x hx => ?_) ?_
      · have := Bts.cut ((o613.ext (e1315.trans hx)).rd) (l := t.o.toNat) (hi := (t.o + t.s).toNat) (by omega) (by omega)
        rw [show (t.o + t.s).toNat - t.o.toNat = t.s.toNat by omega, ← hr] at this
        exact this
      refine cond_i (fun _ => ?_) (fun h => by simp at h)
      have E13 := own1 (E7.trans e712) f13
      exact hK _ (e1.trans ((E13.trans e1315).trans hd))
  · have htd : Int.tdiv k 64 = k / 64 := Int.tdiv_eq_ediv_of_nonneg (by omega)
    rw [htd, wrap_i64 (x := k / 64) (by omega) (by omega), wrap_i64 (x := k / 64 - 1) (by omega) (by omega)]
    have hkl : (b4.length : Int) = k := by omega
    unfold S.wantL at hwant
    rw [hkl] at hwant
    refine cond_i (fun h => ?_) (fun h => ?_)
    · have h1 : bad = k / 64 - 1 := by simpa using h
      rw [if_pos h1] at hwant
      exact hJ _ _ ⟨hwant.symm, rfl⟩
    · have h1 : ¬ bad = k / 64 - 1 := by simpa using h
      rw [if_neg h1] at hwant
      refine cond_i (fun h => ?_) (fun h => ?_)
      · have h2 : S.tErr (b4.drop (b4.length - 64)) ≠ 0 := by simpa using h
        rw [if_pos h2] at hwant
        exact hJ _ _ ⟨hwant.symm, rfl⟩
      · have h2 : S.tErr (b4.drop (b4.length - 64)) = 0 := by simpa using h
        rw [if_neg (Classical.not_not.2 h2)] at hwant
        have hpp : S.tParse (b4.drop (b4.length - 64)) = S.tAt (b4.drop (b4.length - 64)) := by unfold S.tParse; rw [if_pos h2]
        rw [hpp] at v12
        have hti := S.tright_iff.1 (S.tErr_right h2)
        generalize S.tAt (b4.drop (b4.length - 64)) = t' at v12 hti hwant
        refine ld1_i (l := .int .i64) t'.s v12 rfl ?_
        refine join_i (fun c w' => c = decide (t'.s > k - 64 ∨ t'.o > k - 64 - t'.s) ∧ w12 = w') ?_ fun J2 hJ2 => ?_
        rotate_left
        · refine cond_i (fun h => hJ2 _ _ ⟨?_, rfl⟩) (fun h => ?_)
          · have : t'.s > k - 64 := of_decide_eq_true h
            simp [this]
          · have h5 : ¬ t'.s > k - 64 := of_decide_eq_false h
            refine ld1_i (l := .int .i64) t'.o v12 rfl ?_
            refine ld1_i (l := .int .i64) t'.s v12 rfl ?_
            rw [wrap_i64 (x := k - 64 - t'.s) (by omega) (by omega)]
            refine hJ2 _ _ ⟨?_, rfl⟩
            rw [Bool.eq_iff_iff, decide_eq_true_eq, decide_eq_true_eq]
            exact ⟨fun h => .inr h, fun h => h.resolve_left h5⟩
        rintro c w' ⟨hc, rfl⟩
        refine cond_i (fun h => ?_) (fun h => ?_)
        · have h3 : t'.s > k - 64 ∨ t'.o > k - 64 - t'.s := by rw [h] at hc; exact of_decide_eq_true hc.symm
          rw [if_pos h3] at hwant
          exact hJ _ _ ⟨hwant.symm, rfl⟩
        · have h3 : ¬ (t'.s > k - 64 ∨ t'.o > k - 64 - t'.s) := by rw [h] at hc; exact of_decide_eq_false hc.symm
          rw [if_neg h3] at hwant
          refine ld1_i (l := .int .i64) t'.o v12 rfl ?_
          rw [Int.tdiv_eq_ediv_of_nonneg (a := t'.o) (by omega), wrap_i64 (x := t'.o / 64) (by omega) (by omega)]
          refine join_i (fun c w' => c = decide (t'.o / 64 ≤ bad ∧ bad ≤ (t'.o + t'.s - 1) / 64) ∧ w12 = w') ?_ fun J3 hJ3 => ?_
          rotate_left
          · refine cond_i (fun h => ?_) (fun h => hJ3 _ _ ⟨?_, rfl⟩)
            · have h5 : bad ≥ t'.o / 64 := of_decide_eq_true h
              refine ld1_i (l := .int .i64) t'.o v12 rfl ?_
              refine ld1_i (l := .int .i64) t'.s v12 rfl ?_
              rw [wrap_i64 (x := t'.o + t'.s) (by omega) (by omega), wrap_i64 (x := t'.o + t'.s - 1) (by omega) (by omega), Int.tdiv_eq_ediv_of_nonneg (a := t'.o + t'.s - 1) (by omega), wrap_i64 (x := (t'.o + t'.s - 1) / 64) (by omega) (by omega)]
              refine hJ3 _ _ ⟨?_, rfl⟩
              rw [Bool.eq_iff_iff, decide_eq_true_eq, decide_eq_true_eq]
              exact ⟨fun h => ⟨h5, h⟩, fun h => h.2⟩
            · have h5 : ¬ bad ≥ t'.o / 64 := of_decide_eq_false h
              symm
              rw [decide_eq_false_iff_not]
              exact fun h => h5 h.1
          rintro c w' ⟨hc2, rfl⟩
          refine cond_i (fun h => ?_) (fun h => ?_)
          · have h4 : t'.o / 64 ≤ bad ∧ bad ≤ (t'.o + t'.s - 1) / 64 := by rw [h] at hc2; exact of_decide_eq_true hc2.symm
            rw [if_pos h4] at hwant
            exact hJ _ _ ⟨hwant.symm, rfl⟩
          · have h4 : ¬ (t'.o / 64 ≤ bad ∧ bad ≤ (t'.o + t'.s - 1) / 64) := by rw [h] at hc2; exact of_decide_eq_false hc2.symm
            rw [if_neg h4] at hwant
            exact hJ _ _ ⟨hwant.symm, rfl⟩
end Go.Proofs.Ytepjheacppoelaa
