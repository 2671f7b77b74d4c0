/- Layer 14 (tail): the laws TailStores, TailTorn. -/
import Derived.Test.YtepjheacppoelaaTail14e
set_option linter.unusedSimpArgs false
set_option linter.unusedVariables false
namespace Go.S
open Go Go.Eng
theorem made_one {nm : List UInt8} {k : Int} (h : made [(nm, k)] = 0) : 64 ≤ k ∧ k ≤ 1048576 ∧ k % 64 = 0 := by
  unfold made at h
  rw [if_neg (by simp)] at h
  split at h
  · rename_i ha
    rw [List.all_eq_true] at ha
    have h0 := ha 0 (by simp)
    unfold okAt partOk at h0
    simp only [Bool.and_eq_true, decide_eq_true_eq] at h0
    exact ⟨h0.1.1.2, h0.1.2, h0.2⟩
  · simp at h
/-- When a store is told to be full, as the document says it. -/
theorem store_full {b raw : List UInt8} {data : Int} (hd : 0 ≤ data) (h1 : 1 ≤ raw.length) (h2 : raw.length ≤ 65536) (hb : b.length ≤ 1048576) (h : data > 1048576 ∨ (data + 63) / 64 * 64 + raw.length > (b.length : Int) - 64) : storeP b data raw = (43, b) := by
  unfold storeP
  rw [if_neg (by omega), if_pos]
  unfold align
  rw [if_neg (by omega)]
  split
  · exact .inl (by simp)
  · split
    · refine .inr ?_
      rw [Bool.eq_false_iff]
      intro hw
      have := within_iff.1 hw
      simp only at this
      omega
    · exact .inl (by simp)
theorem store_room {b raw : List UInt8} {data : Int} (hd : 0 ≤ data) (h1 : 1 ≤ raw.length) (h2 : raw.length ≤ 65536) (h : ¬ data > 1048576) (h' : ¬ (data + 63) / 64 * 64 + raw.length > (b.length : Int) - 64) : (storeP b data raw).1 = 0 := by
  unfold storeP
  rw [if_neg (by omega), if_neg]
  have ha : align data 64 = ((data + 64 - 1) / 64 * 64, 0) := by
    unfold align
    rw [if_neg (by omega), if_neg (by omega), if_pos (by omega)]
  rw [ha]
  rintro (h | h)
  · exact h rfl
  · rw [within_iff.2 (by simp only; omega)] at h; cases h
end Go.S
namespace Go.Proofs.Ytepjheacppoelaa
open Go Go.Eng
theorem noBad {nm b : List UInt8} {off len : Int} : (S.Area.mk nm b (fun _ => false)).badIn off len = false := S.badIn_none
/-- Reading a stretch of a partition without bad sectors. -/
theorem fitRead_s {w : World} {gd : Nat} {L : Lay} {D : S.Drv} {nm b : List UInt8} {i : Nat} {name : ByteArray} {off len : Int} {K : Sl → Int → World → Prop} (h : DriveAt w gd L D) (hf : S.Fit D nm i ⟨nm, b, fun _ => false⟩) (hn : name.toList = nm) (hw : S.within off len b.length = true)
    (ho : S.I64 off) (hl : S.I64 len)
    (hK : ∀ v w' D', Fr (fun k => k = gd) w w' → DriveAt w' gd L D' → D'.as = D.as → D'.left = D.left → D'.keep = D.keep → D'.down = false → OwnB w' w.heap.size v ((b.drop off.toNat).take len.toNat) → K v 0 w') :
    callS Try.prog 16 #[.pointer (some (at_ gd 0)), .string name, .int .i64 off, .int .i64 len] [.one .slc, .one (.int .i64)] K w := by
  refine dRead_s h ho hl fun v w' f d o => ?_
  rw [hn, hf.read] at d o ⊢
  simp only [hw, noBad, Bool.true_eq_false, if_false, Bool.false_eq_true] at d o ⊢
  exact hK v w' _ f d rfl rfl rfl hf.dn o
/-- Writing a stretch while the power is on. -/
theorem fitWrite_s {w : World} {gd : Nat} {L : Lay} {D : S.Drv} {nm b bs : List UInt8} {bad : Int → Bool} {i : Nat} {name : ByteArray} {off : Int} {p : Sl} {K : Int → World → Prop} (h : DriveAt w gd L D) (hf : S.Fit D nm i ⟨nm, b, bad⟩) (hleft : D.left = -1) (hn : name.toList = nm) (hw : S.within off bs.length b.length = true)
    (ho : S.I64 off) (hp : Bts w p bs) (hbl : bs.length ≤ 68719476736) (hsep : bs ≠ [] → ∀ a, p.a = some a → ¬ L.inD gd a.block)
    (hK : ∀ w' D', Fr (L.inD gd) w w' → DriveAt w' gd L D' → S.Fit D' nm i ⟨nm, S.over b bs off.toNat (fun _ => true), bad⟩ → D'.left = -1 → D'.keep = D.keep → K 0 w') :
    callS Try.prog 15 #[.pointer (some (at_ gd 0)), .string name, .int .i64 off, .slice p.a p.len p.cap] [.one (.int .i64)] K w := by
  refine dWrite_s h ho hp hbl hsep fun w' f d => ?_
  rw [hn, hf.write (by omega) hw] at d ⊢
  simp only at d ⊢
  exact hK w' _ f d ((hf.set _).same rfl hf.dn) (by show max (D.left - 1) (-1) = -1; omega) rfl
/-- Store while the power is on. -/
theorem fitStore_s {w : World} {gd : Nat} {L : Lay} {D : S.Drv} {nm b raw : List UInt8} {bad : Int → Bool} {i : Nat} {name : ByteArray} {data : Int} {p : Sl} {K : Int → World → Prop} (h : DriveAt w gd L D) (hf : S.Fit D nm i ⟨nm, b, bad⟩) (hleft : D.left = -1) (hn : name.toList = nm) (hN : 64 ≤ b.length)
    (hd : S.I64 data) (hp : Bts w p raw) (hsep : raw ≠ [] → ∀ a, p.a = some a → ¬ L.inD gd a.block)
    (hK : ∀ w' D', Fr (L.inD gd) w w' → DriveAt w' gd L D' → S.Fit D' nm i ⟨nm, (S.storeP b data raw).2, bad⟩ → D'.left = -1 → D'.keep = D.keep → (∀ n' j A', j ≠ i → S.Fit D n' j A' → S.Fit D' n' j A') → K (S.storeP b data raw).1 w') :
    callS Try.prog 17 #[.pointer (some (at_ gd 0)), .string name, .int .i64 data, .slice p.a p.len p.cap] [.one (.int .i64)] K w := by
  refine tstore_s h hd hp hsep fun w' f d => ?_
  obtain ⟨D', hs, hfit, h1, h2, h3⟩ := S.store_fit (data := data) (raw := raw) hf hN hleft
  rw [hn, hs] at d ⊢
  exact hK w' D' f d hfit h1 h2 h3
/-- Load. -/
theorem fitLoad_s {w : World} {gd : Nat} {L : Lay} {D : S.Drv} {nm : List UInt8} {A : S.Area} {i : Nat} {name : ByteArray} {K : Sl → Int → Int → Int → Int → World → Prop} (h : DriveAt w gd L D) (hf : S.Fit D nm i A) (hn : name.toList = nm) (hN : 64 ≤ A.b.length)
    (hK : ∀ v w' D', Fr (fun k => k = gd) w w' → DriveAt w' gd L D' → D'.as = D.as → D'.left = D.left → D'.keep = D.keep → D'.down = false → OwnB w' w.heap.size v (S.loadP A).1 → K v (S.loadP A).2.1.d (S.loadP A).2.1.o (S.loadP A).2.1.s (S.loadP A).2.2 w') :
    callS Try.prog 18 #[.pointer (some (at_ gd 0)), .string name] [.one .slc, .agg lT, .one (.int .i64)] K w := by
  refine tload_s h fun v w' f d o => ?_
  obtain ⟨D', hl, h1, h2, h3, h4⟩ := S.load_fit hf hN
  rw [hn, hl] at d o ⊢
  exact hK v w' D' f d h1 h2 h3 h4 o
theorem take_whole {l : List UInt8} {n : Int} (h : (l.length : Int) = n) : (l.drop (0 : Int).toNat).take n.toNat = l := by
  rw [show (0 : Int).toNat = 0 by rfl, List.drop_zero]
  exact List.take_of_length_le (by omega)

theorem TailStores_s {k data : Int} {p1 p3 : Sl} {bs raw : List UInt8} {K : Bool → World → Prop} {w : World} (hk : S.I64 k) (hb : Bts w p1 bs) (hdata : S.I64 data) (hr : Bts w p3 raw) (hK : ∀ w', Ext w w' → K true w') :
    callS Try.prog 4 #[.int .i64 k, .slice p1.a p1.len p1.cap, .int .i64 data, .slice p3.a p3.len p3.cap] [.one .bool] K w := by
  refine f4_ok ?_
  unfold f4
  have hbl := Bts.len hb
  have hcap := hb.cap
  have hrl := Bts.len hr
  refine anchor_s fun w1 e1 => ?_
  refine cond_i (fun h => by cases h) (fun _ => ?_)
  refine cond_i (fun _ => hK w1 e1) (fun hg => ?_)
  simp only [Bool.or_eq_false_iff, decide_eq_false_iff_not] at hg
  refine made_s hk (fun w' e h => ?_) fun gd L w2 e2 hm hgd hin d2 => ?_
  · refine ptrEq_i ?_
    exact cond_i (fun _ => hK w' (e1.trans e)) (fun h => by cases h)
  refine ptrEq_i ?_
  refine cond_i (fun h => by cases h) (fun _ => ?_)
  obtain ⟨hk1, hk2, hk3⟩ := S.made_one hm
  have own : ∀ {a b : World}, Ext w1 a → Fr (L.inD gd) a b → Ext w1 b := fun h1 h2 => Ext.own h1 h2 hin
  have own1 : ∀ {a b : World}, Ext w1 a → Fr (fun k => k = gd) a b → Ext w1 b := fun h1 h2 => Fr.own1 h1 h2 hgd
  have sep : ∀ {xs : List UInt8} {p : Sl}, Bts w1 p xs → xs ≠ [] → ∀ a, p.a = some a → ¬ L.inD gd a.block := fun h hne a ha hk => by
    have := rd_lt h (by simpa using hne) ha; have := hin _ hk; omega
  have hb1 := hb.ext e1
  have hr1 := hr.ext e1
  have hb0l : (List.replicate k.toNat (0 : UInt8)).length = k.toNat := List.length_replicate
  have fit0 := fit_one (b := List.replicate k.toNat 0) (bad := fun _ => false) (left := -1) (keep := []) (c := 0) (n := 0) (name := [112])
  have hleft0 : (S.one [112] (List.replicate k.toNat 0) (fun _ => false) (-1) [] false 0 0).left = -1 := rfl
  generalize S.one [112] (List.replicate k.toNat 0) (fun _ => false) (-1) [] false 0 0 = D0 at *
  generalize List.replicate k.toNat (0 : UInt8) = b0 at *
  -- the bytes ahead
  obtain ⟨hi, hhi, hh1, hh2, hh3⟩ : ∃ hi : Int, (if k < (p1.len : Int) then k else (p1.len : Int)) = hi ∧ 0 ≤ hi ∧ hi ≤ p1.len ∧ hi ≤ k := ⟨_, rfl, by split <;> omega, by split <;> omega, by split <;> omega⟩
  rw [hhi]
  refine slHi_i hh1 (by omega) ?_
  have hc : Bts w1 (p1.cut 1 0 hi.toNat) (bs.take hi.toNat) := by
    have := Bts.cut hb1 (l := 0) (hi := hi.toNat) (by omega) (by omega); simpa using this
  refine fitWrite_s (name := ByteArray.mk #[112]) d2 fit0 hleft0 p_toList (S.within_iff.2 (by rw [List.length_take]; omega)) ⟨by omega, by omega⟩ (hc.ext e2) (by rw [List.length_take]; omega) (sep hc) fun w3 D3 f3 d3 fit3 l3 _ => ?_
  have hb3l : (S.over b0 (bs.take hi.toNat) (0 : Int).toNat fun _ => true).length = k.toNat := by rw [S.over_length]; exact hb0l
  generalize S.over b0 (bs.take hi.toNat) (0 : Int).toNat (fun _ => true) = b3 at fit3 hb3l
  have E3 := own e2 f3
  refine fitRead_s (name := ByteArray.mk #[112]) d3 fit3 p_toList (S.within_iff.2 (by omega)) ⟨by omega, by omega⟩ hk fun v4 w4 D4 f4 d4 a4 l4 _ dn4 o4 => ?_
  rw [take_whole (by omega)] at o4
  have E4 := own1 E3 f4
  have fit4 := fit3.same a4 dn4
  refine fitStore_s (name := ByteArray.mk #[112]) d4 fit4 (by omega) p_toList (by omega) hdata (hr1.ext E4) (sep hr1) fun w5 D5 f5 d5 fit5 l5 _ _ => ?_
  have E5 := own E4 f5
  have hv4 : ∀ k, v4.inB k → ¬ L.inD gd k := fun k hk h => by have := (o4.inB hk).1; have := d3.lt h; omega
  have o5 := o4.fr f5 fun a ha h => hv4 _ ⟨a, ha, rfl⟩ h
  have hb5l : (S.storeP b3 data raw).2.length = k.toNat := by rw [S.storeP_len]; exact hb3l
  refine fitRead_s (name := ByteArray.mk #[112]) d5 fit5 p_toList (S.within_iff.2 (by omega)) ⟨by omega, by omega⟩ hk fun v6 w6 D6 f6 d6 a6 l6 _ dn6 o6 => ?_
  rw [take_whole (by omega)] at o6
  have E6 := own1 E5 f6
  have fit6 := fit5.same a6 dn6
  have o56 := o5.fr f6 fun a ha h => hv4 _ ⟨a, ha, rfl⟩ (.inl h)
  have hv6l := OwnB.len o6
  have hv4l := OwnB.len o4
  refine cond_i (fun h => by simp at h; omega) (fun _ => ?_)
  refine cond_i (fun hc => ?_) (fun hc => ?_)
  · have hc' : data < 0 ∨ raw.length < 1 := by simp at hc; omega
    have hsp : S.storeP b3 data raw = (12, b3) := by unfold S.storeP; rw [if_pos (by omega)]
    rw [hsp] at o6 ⊢
    refine join_i (fun b w' => b = true ∧ w6 = w') (fun b w' ⟨hb, he⟩ => by subst hb; subst he; exact hK _ (e1.trans E6)) fun J hJ => ?_
    refine cond_i (fun _ => ?_) (fun h => by cases h)
    refine b2s_i o6.rd ?_
    refine b2s_i o56.rd ?_
    exact hJ _ _ ⟨by simp, rfl⟩
  · have hc' : ¬ (data < 0 ∨ raw.length < 1) := by simp at hc; omega
    have hr3 : raw.length ≤ 3000 := by omega
    refine cond_i (fun hf => ?_) (fun hf => ?_)
    · have hf' : data > 1048576 ∨ (data + 63) / 64 * 64 + raw.length > (b3.length : Int) - 64 := by
        by_cases hbig : data > 1048576
        · exact .inl hbig
        · refine .inr ?_
          rw [Bool.or_eq_true, decide_eq_true_eq, decide_eq_true_eq] at hf
          rcases hf with hf | hf
          · exact absurd hf hbig
          · rw [wrap_i64 (x := data + 63) (by omega) (by omega), Int.tdiv_eq_ediv_of_nonneg (by omega), wrap_i64 (x := (data + 63) / 64) (by omega) (by omega), wrap_i64 (x := (data + 63) / 64 * 64) (by omega) (by omega), wrap_i64 (x := (data + 63) / 64 * 64 + (p3.len : Int)) (by omega) (by omega), wrap_i64 (x := k - 64) (by omega) (by omega)] at hf
            omega
      have hsp := S.store_full (b := b3) (raw := raw) (data := data) (by omega) (by omega) (by omega) (by omega) hf'
      rw [hsp] at o6 ⊢
      refine join_i (fun b w' => b = true ∧ w6 = w') (fun b w' ⟨hb, he⟩ => by subst hb; subst he; exact hK _ (e1.trans E6)) fun J hJ => ?_
      refine cond_i (fun _ => ?_) (fun h => by cases h)
      refine b2s_i o6.rd ?_
      refine b2s_i o56.rd ?_
      exact hJ _ _ ⟨by simp, rfl⟩
    · rw [Bool.or_eq_false_iff, decide_eq_false_iff_not, decide_eq_false_iff_not] at hf
      obtain ⟨hf1, hf2⟩ := hf
      rw [wrap_i64 (x := data + 63) (by omega) (by omega), Int.tdiv_eq_ediv_of_nonneg (by omega), wrap_i64 (x := (data + 63) / 64) (by omega) (by omega), wrap_i64 (x := (data + 63) / 64 * 64) (by omega) (by omega), wrap_i64 (x := (data + 63) / 64 * 64 + (p3.len : Int)) (by omega) (by omega), wrap_i64 (x := k - 64) (by omega) (by omega)] at hf2
      have hst : (S.storeP b3 data raw).1 = 0 := S.store_room (by omega) (by omega) (by omega) hf1 (by omega)
      have hld := S.load_stored (nm := [112]) hst (by omega)
      obtain ⟨q1, q2, q3, q4, q5, q6, q7, q8, q9⟩ := S.stored hst (by omega)
      refine fitLoad_s (name := ByteArray.mk #[112]) d6 fit6 p_toList (by show 64 ≤ (S.storeP b3 data raw).2.length; omega) fun v7 w7 D7 f7 d7 _ _ _ _ o7 => ?_
      rw [hld] at o7 ⊢
      simp only at o7 ⊢
      have E7 := own1 E6 f7
      refine alloc_i fun g8 w8 e8 hg8 v8 => ?_
      refine stT_i v8 rfl fun w9 f9 v9 => ?_
      have e79 := Fr.own1 e8 f9 hg8
      have hd := Ext.drew w9
      refine ⟨fun x => Ext w9 x, hd, ?_⟩
      have hv6 : ∀ k, v6.inB k → ¬ L.inD gd k := fun k hk h => by have := (o6.inB hk).1; have := d5.lt h; omega
      have o67 := o6.fr f7 fun a ha h => hv6 _ ⟨a, ha, rfl⟩ (.inl h)
      have o57 := o56.fr f7 fun a ha h => hv4 _ ⟨a, ha, rfl⟩ (.inl h)
      rw [hst]
      refine cond_i (fun _ => ?_) (fun h => by cases h)
      refine cond_i (fun _ => ?_) (fun h => by cases h)
      refine b2sQ_i (fun x hx => (o7.ext (e79.trans hx)).rd) ?_
      refine b2sQ_i (fun x hx => ((hr1.ext E7).ext (e79.trans hx))) ?_
      refine cond_i (fun _ => ?_) (fun h => by simp at h)
      refine ld1Q_i (l := .int .i64) data (fun x hx => v9.ext hx) rfl ?_
      refine cond_i (fun _ => ?_) (fun h => by simp at h)
      have hc6 := o67.rd.cap
      have hc4 := o57.rd.cap
      refine slHiQ_i (by omega) (by omega) ?_
      refine b2sQ_i (bs := (S.storeP b3 data raw).2.take data.toNat) (fun x hx => by
        have := Bts.cut ((o67.ext (e79.trans hx)).rd) (l := 0) (hi := data.toNat) (by omega) (by omega); simpa using this) ?_
      refine slHiQ_i (by omega) (by omega) ?_
      refine b2sQ_i (bs := b3.take data.toNat) (fun x hx => by
        have := Bts.cut ((o57.ext (e79.trans hx)).rd) (l := 0) (hi := data.toNat) (by omega) (by omega); simpa using this) ?_
      have hsame : (S.storeP b3 data raw).2.take data.toNat = b3.take data.toNat := by
        rw [q8]
        have h1 := S.over_apart (old := S.over b3 raw (S.align data 64).1.toNat fun _ => true) (bs := S.tB ⟨data, (S.align data 64).1, raw.length⟩) (off := b3.length - 64) (a := 0) (l := data.toNat) (p := fun _ => true) (.inl (by omega))
        have h2 := S.over_apart (old := b3) (bs := raw) (off := (S.align data 64).1.toNat) (a := 0) (l := data.toNat) (p := fun _ => true) (.inl (by omega))
        rw [List.drop_zero, List.drop_zero] at h1 h2
        rw [h1, h2]
      rw [hsame]
      have := hK w9 (e1.trans (E7.trans e79))
      simpa using hK _ (e1.trans (E7.trans (e79.trans hd)))
end Go.Proofs.Ytepjheacppoelaa
