/- Layer 14 (tail): the law TailTorn. -/
import Derived.Test.YtepjheacppoelaaTail14f
set_option linter.unusedSimpArgs false
set_option linter.unusedVariables false
namespace Go.S
open Go Go.Eng
theorem over_congr_p {old bs : List UInt8} {off : Nat} {p q : Nat → Bool} (h : ∀ k, p k = q k) : over old bs off p = over old bs off q := by rw [show p = q from funext h]
/-- One sector, at a sector's begin. -/
theorem over_one {old bs : List UInt8} {off : Nat} {p : Nat → Bool} (h64 : off % 64 = 0) (hb : bs.length ≤ 64) : over old bs off p = if p 0 then over old bs off (fun _ => true) else old := by
  have hk : ∀ i, off ≤ i → i < off + bs.length → i / 64 - off / 64 = 0 := fun i h1 h2 => by omega
  by_cases hp : p 0 = true
  · rw [if_pos hp]
    exact over_congr fun i h1 h2 => by rw [hk i h1 h2, hp]
  · rw [if_neg hp]
    apply List.ext_getElem?
    intro i
    by_cases hi : i < old.length
    · rw [over_get hi, if_neg]
      · simp [hi]
      · rintro ⟨h1, h2, h3⟩
        rw [hk i h1 h2] at h3; exact hp h3
    · rw [List.getElem?_eq_none (by rw [over_length]; omega), List.getElem?_eq_none (by omega)]
/-- A Store that the power cuts off at its first write. -/
theorem store_torn0 {D : Drv} {n : List UInt8} {i : Nat} {A : Area} {data : Int} {raw : List UInt8} (h : Fit D n i A) (hl : D.left = 0) (hs : (storeP A.b data raw).1 = 0) (hN : 64 ≤ A.b.length ∧ A.b.length ≤ 1048576) :
    ∃ D', tStore D n data raw = (42, D') ∧ Fit { D' with down := false } n i (A.setB (over A.b raw (align data 64).1.toNat fun k => D.keep.getD k false)) := by
  obtain ⟨h1, h2, h3, h4, h5, h6, h7, h8, h9⟩ := stored hs hN.2
  unfold tStore
  rw [h.size]
  simp only [ne_eq, not_true_eq_false, if_false]
  have ha : (align data 64).2 = 0 := by
    unfold storeP at hs
    split at hs
    · simp at hs
    · split at hs
      · simp at hs
      · rename_i hx
        exact Classical.not_not.1 fun hy => hx (.inl hy)
  rw [if_neg (by omega), if_neg (by rw [ha, within_iff.2 (by omega)]; simp), h.write0 hl (within_iff.2 (by omega)), if_pos (by simp)]
  exact ⟨_, rfl, (h.set _).same rfl rfl⟩
/-- A Store that the power cuts off at its second write. -/
theorem store_torn1 {D : Drv} {n : List UInt8} {i : Nat} {A : Area} {data : Int} {raw : List UInt8} (h : Fit D n i A) (hl : D.left = 1) (hs : (storeP A.b data raw).1 = 0) (hN : 64 ≤ A.b.length ∧ A.b.length ≤ 1048576) (h64 : A.b.length % 64 = 0) :
    ∃ D', tStore D n data raw = (42, D') ∧ Fit { D' with down := false } n i (A.setB (if D.keep.getD 0 false then (storeP A.b data raw).2 else over A.b raw (align data 64).1.toNat fun _ => true)) := by
  obtain ⟨h1, h2, h3, h4, h5, h6, h7, h8, h9⟩ := stored hs hN.2
  unfold tStore
  rw [h.size]
  simp only [ne_eq, not_true_eq_false, if_false]
  have ha : (align data 64).2 = 0 := by
    unfold storeP at hs
    split at hs
    · simp at hs
    · split at hs
      · simp at hs
      · rename_i hx
        exact Classical.not_not.1 fun hy => hx (.inl hy)
  rw [if_neg (by omega), if_neg (by rw [ha, within_iff.2 (by omega)]; simp), h.write (by omega) (within_iff.2 (by omega)), if_neg (by simp)]
  dsimp only
  rw [h8]
  generalize hb1 : over A.b raw (align data 64).1.toNat (fun _ => true) = b1
  have hb1l : b1.length = A.b.length := by rw [← hb1, over_length]
  have f1 : Fit { D.set i (A.setB b1) with left := max (D.left - 1) (-1) } n i (A.setB b1) := (h.set b1).same rfl h.dn
  have ht := tB_len ⟨data, (align data 64).1, raw.length⟩
  rw [f1.write0 (by show max (D.left - 1) (-1) = 0; omega) (by rw [Area.setB_b, ht, hb1l]; exact within_iff.2 (by omega))]
  refine ⟨_, rfl, ?_⟩
  rw [Area.setB_b, show ((A.b.length : Int) - 64).toNat = A.b.length - 64 by omega, Area.setB_setB, over_one (by omega) (by omega)]
  have f2 := f1.set (if D.keep.getD 0 false = true then over b1 (tB ⟨data, (align data 64).1, raw.length⟩) (A.b.length - 64) (fun _ => true) else b1)
  rw [Area.setB_setB] at f2
  exact f2.same rfl rfl
end Go.S
namespace Go.Proofs.Ytepjheacppoelaa
open Go Go.Eng
theorem fit_boot {D : S.Drv} {n : List UInt8} {i : Nat} {A : S.Area} (h : S.Fit { D with down := false } n i A) : S.Fit D.boot n i A := h.same rfl rfl
theorem fit_arm {D : S.Drv} {n : List UInt8} {i : Nat} {A : S.Area} {m : Int} {ks : List Bool} (h : S.Fit D n i A) : S.Fit (D.arm m ks) n i A := h.same rfl h.dn
/-- What lies there behind the torn store. -/
def tornB (b0 a b : List UInt8) (arm : Int) (ks : List Bool) : List UInt8 :=
  if arm = 1 then (if ks.getD 0 false then (S.storeP (S.storeP b0 0 a).2 400 b).2 else S.over (S.storeP b0 0 a).2 b 448 fun _ => true) else S.over (S.storeP b0 0 a).2 b 448 fun k => ks.getD k false
theorem torn_load {b0 a b : List UInt8} {arm : Int} {ks : List Bool} (hb0 : b0.length = 1024) (ha : 1 ≤ a.length ∧ a.length ≤ 300) (hb : 1 ≤ b.length ∧ b.length ≤ 300) :
    S.loadP ⟨[112], tornB b0 a b arm ks, fun _ => false⟩ = if arm = 1 ∧ ks.getD 0 false = true then (b, ⟨400, 448, b.length⟩, 0) else (a, ⟨0, 0, a.length⟩, 0) := by
  have hst : (S.storeP b0 0 a).1 = 0 := S.store_room (by omega) (by omega) (by omega) (by omega) (by omega)
  have hl1 : (S.storeP b0 0 a).2.length = 1024 := by rw [S.storeP_len]; exact hb0
  have al0 : (S.align 0 64).1 = 0 := by decide
  have al4 : (S.align 400 64).1 = 448 := by decide
  obtain ⟨q1, q2, q3, q4, q5, q6, q7, q8, q9⟩ := S.stored hst (by omega)
  rw [al0] at q8 q9
  have hst2 : (S.storeP (S.storeP b0 0 a).2 400 b).1 = 0 := S.store_room (by omega) (by omega) (by omega) (by omega) (by omega)
  have hl2 := S.load_stored (nm := [112]) hst2 (by omega)
  rw [al4] at hl2
  have hold : ∀ p : Nat → Bool, S.loadP ⟨[112], S.over (S.storeP b0 0 a).2 b 448 p, fun _ => false⟩ = (a, ⟨0, 0, a.length⟩, 0) := fun p => by
    have hl3 : (S.over (S.storeP b0 0 a).2 b 448 p).length = 1024 := by rw [S.over_length]; exact hl1
    have ht := S.tB_len ⟨0, 0, a.length⟩
    refine S.load_tail (by show 64 ≤ (S.over (S.storeP b0 0 a).2 b 448 p).length; omega) rfl q9 ?_ ?_ ?_
    · show (S.over (S.storeP b0 0 a).2 b 448 p).drop ((S.over (S.storeP b0 0 a).2 b 448 p).length - 64) = _
      rw [S.drop_all (by omega), hl3, S.over_apart (.inr (by omega)), q8]
      have h0l : (S.over b0 a (0 : Int).toNat fun _ => true).length = 1024 := by rw [S.over_length]; exact hb0
      have := S.over_same (old := S.over b0 a (0 : Int).toNat fun _ => true) (bs := S.tB ⟨0, 0, a.length⟩) (off := b0.length - 64) (by omega)
      rw [ht, hb0] at this
      rw [hb0]
      exact this
    · show (0 : Int) + (a.length : Int) ≤ ((S.over (S.storeP b0 0 a).2 b 448 p).length : Int) - 64
      omega
    · show ((S.over (S.storeP b0 0 a).2 b 448 p).drop (0 : Int).toNat).take ((a.length : Nat) : Int).toNat = a
      rw [show (0 : Int).toNat = 0 by rfl, Int.toNat_natCast, S.over_apart (.inl (by omega)), q8, S.over_apart (.inl (by omega))]
      exact S.over_same (off := 0) (by omega)
  unfold tornB
  by_cases h1 : arm = 1
  · rw [if_pos h1]
    cases hk : ks.getD 0 false with
    | true => rw [if_pos rfl, if_pos ⟨h1, rfl⟩]; exact hl2
    | false => rw [if_neg (by simp), if_neg (by rintro ⟨_, h⟩; cases h)]; exact hold _
  · rw [if_neg h1, if_neg (fun h => h1 h.1)]; exact hold _

theorem TailTorn_s {p0 p1 p3 : Sl} {a b : List UInt8} {arm : Int} {ks : List Bool} {K : Bool → World → Prop} {w : World} (ha : Bts w p0 a) (hb : Bts w p1 b) (harm : S.I64 arm) (hks : Rd w p3 1 (ks.map Value.bool)) (hK : ∀ w', Ext w w' → K true w') :
    callS Try.prog 6 #[.slice p0.a p0.len p0.cap, .slice p1.a p1.len p1.cap, .int .i64 arm, .slice p3.a p3.len p3.cap] [.one .bool] K w := by
  refine f6_ok ?_
  unfold f6
  have hal := Bts.len ha
  have hbl := Bts.len hb
  have hkl : p3.len = ks.length := by have := hks.len; simp at this; omega
  refine anchor_s fun w1 e1 => ?_
  refine cond_i (fun h => by cases h) (fun _ => ?_)
  refine cond_i (fun _ => hK w1 e1) (fun hg => ?_)
  simp only [Bool.or_eq_false_iff, decide_eq_false_iff_not] at hg
  refine made_s ⟨by omega, by omega⟩ (fun w' e h => absurd (by decide +kernel) h) fun gd L w2 e2 hm hgd hin d2 => ?_
  refine ptrEq_i ?_
  have own : ∀ {a b : World}, Ext w1 a → Fr (L.inD gd) a b → Ext w1 b := fun h1 h2 => Ext.own h1 h2 hin
  have sep : ∀ {xs : List UInt8} {p : Sl}, Bts w1 p xs → xs ≠ [] → ∀ a, p.a = some a → ∀ {L' : Lay}, (∀ k, L'.inD gd k → w1.heap.size ≤ k) → ¬ L'.inD gd a.block := fun h hne a ha L' hL hk => by
    have := rd_lt h (by simpa using hne) ha; have := hL _ hk; omega
  have ha1 := ha.ext e1
  have hb1 := hb.ext e1
  have hks1 := hks.ext e1
  rw [show (1024 : Int).toNat = 1024 by rfl] at d2
  have hb0l : (List.replicate 1024 (0 : UInt8)).length = 1024 := List.length_replicate
  have fit0 := fit_one (b := List.replicate 1024 0) (bad := fun _ => false) (left := -1) (keep := []) (c := 0) (n := 0) (name := [112])
  have hleft0 : (S.one [112] (List.replicate 1024 0) (fun _ => false) (-1) [] false 0 0).left = -1 := rfl
  generalize S.one [112] (List.replicate 1024 0) (fun _ => false) (-1) [] false 0 0 = D0 at *
  generalize List.replicate 1024 (0 : UInt8) = b0 at *
  have hst : (S.storeP b0 0 a).1 = 0 := S.store_room (by omega) (by omega) (by omega) (by omega) (by omega)
  have hb1l : (S.storeP b0 0 a).2.length = 1024 := by rw [S.storeP_len]; exact hb0l
  have hst2 : (S.storeP (S.storeP b0 0 a).2 400 b).1 = 0 := S.store_room (by omega) (by omega) (by omega) (by omega) (by omega)
  have al4 : (S.align 400 64).1 = 448 := by decide
  refine join_i (fun c w' => c = false ∧ Ext w1 w' ∧ ∃ D, DriveAt w' gd L D ∧ S.Fit D [112] 0 ⟨[112], (S.storeP b0 0 a).2, fun _ => false⟩ ∧ D.left = -1) ?_ fun J hJ => ?_
  rotate_left
  · refine cond_i (fun h => by cases h) (fun _ => ?_)
    refine fitStore_s (name := ByteArray.mk #[112]) d2 fit0 hleft0 p_toList (by omega) ⟨by omega, by omega⟩ (ha1.ext e2) (fun hne x hx => sep ha1 hne x hx hin) fun w3 D3 f3 d3 fit3 l3 _ _ => ?_
    rw [hst]
    exact hJ _ _ ⟨rfl, own e2 f3, D3, d3, fit3, l3⟩
  rintro c w3 ⟨rfl, E3, D3, d3, fit3, l3⟩
  refine cond_i (fun h => by cases h) (fun _ => ?_)
  refine dArm_s (ks := ks) d3 harm (hks1.ext E3) (by omega) fun w4 L4 f4 d4 hin4 _ => ?_
  have E4 : Ext w1 w4 := Fr.own1 E3 f4 hgd
  have hinL4 : ∀ k, L4.inD gd k → w1.heap.size ≤ k := fun k hk => by
    rcases hin4 k hk with h | h
    · exact hin k h
    · have := E3.size; omega
  have fit4 : S.Fit (D3.arm arm ks) [112] 0 ⟨[112], (S.storeP b0 0 a).2, fun _ => false⟩ := fit_arm fit3
  refine tstore_s (name := ByteArray.mk #[112]) d4 ⟨by omega, by omega⟩ (hb1.ext E4) (fun hne x hx => sep hb1 hne x hx hinL4) fun w5 f5 d5 => ?_
  have E5 : Ext w1 w5 := Ext.own E4 f5 hinL4
  have key : ∃ D5, S.tStore (D3.arm arm ks) [112] 400 b = (42, D5) ∧ S.Fit { D5 with down := false } [112] 0 ⟨[112], tornB b0 a b arm ks, fun _ => false⟩ := by
    by_cases h1 : arm = 1
    · obtain ⟨D5, hs, hf⟩ := S.store_torn1 fit4 (by show max arm (-1) = 1; omega) hst2 (by show 64 ≤ (S.storeP b0 0 a).2.length ∧ (S.storeP b0 0 a).2.length ≤ 1048576; omega) (by show (S.storeP b0 0 a).2.length % 64 = 0; omega)
      refine ⟨D5, hs, ?_⟩
      unfold tornB
      rw [if_pos h1]
      rw [al4] at hf
      exact hf
    · have h0 : arm = 0 := by omega
      obtain ⟨D5, hs, hf⟩ := S.store_torn0 fit4 (by show max arm (-1) = 0; omega) hst2 (by show 64 ≤ (S.storeP b0 0 a).2.length ∧ (S.storeP b0 0 a).2.length ≤ 1048576; omega)
      refine ⟨D5, hs, ?_⟩
      unfold tornB
      rw [if_neg h1]
      rw [al4] at hf
      exact hf
  obtain ⟨D5, hs, fit5⟩ := key
  rw [p_toList, hs] at d5 ⊢
  simp only at d5 ⊢
  refine cond_i (fun h => by cases h) (fun _ => ?_)
  refine dBoot_s d5 fun w6 f6 d6 => ?_
  have E6 : Ext w1 w6 := Fr.own1 E5 f6 hgd
  have hbt : (tornB b0 a b arm ks).length = 1024 := by
    unfold tornB
    split
    · split
      · rw [S.storeP_len]; exact hb1l
      · rw [S.over_length]; exact hb1l
    · rw [S.over_length]; exact hb1l
  refine fitLoad_s (name := ByteArray.mk #[112]) d6 (fit_boot fit5) p_toList (by show 64 ≤ (tornB b0 a b arm ks).length; omega) fun v7 w7 D7 f7 d7 _ _ _ _ o7 => ?_
  have E7 : Ext w1 w7 := Fr.own1 E6 f7 hgd
  rw [torn_load hb0l (by omega) (by omega)] at o7 ⊢
  refine alloc_i fun g8 w8 e8 hg8 v8 => ?_
  refine stT_i v8 rfl fun w9 f9 v9 => ?_
  have e79 := Fr.own1 e8 f9 hg8
  have E9 := E7.trans e79
  have o9 := o7.ext e79
  refine join_i (fun c w' => c = (decide (arm = 1) && ks.getD 0 false) ∧ w9 = w') ?_ fun J hJ => ?_
  rotate_left
  · refine cond_i (fun h => ?_) (fun h => ?_)
    · have h2 : arm = 1 ∧ 0 < ks.length := by simp at h; omega
      refine elem_i (l := .bool) (x := ks.getD 0 false) (hks1.ext E9) (by omega) (by omega) (by simp [h2.2, Lf.enc]) ?_
      exact hJ _ _ ⟨by rw [h2.1]; simp, rfl⟩
    · refine hJ _ _ ⟨?_, rfl⟩
      symm
      rw [Bool.eq_false_iff]
      intro hh
      rw [Bool.and_eq_true, decide_eq_true_eq] at hh
      rw [Bool.eq_false_iff] at h
      apply h
      have hk0 : 0 < ks.length := by
        cases ks with
        | nil => simp at hh
        | cons a l => simp
      simp [hh.1]; omega
  rintro c w' ⟨rfl, rfl⟩
  have hfin := hK w9 (e1.trans E9)
  by_cases hc : arm = 1 ∧ ks.getD 0 false = true
  · rw [if_pos hc] at o9 v9 ⊢
    rw [show (decide (arm = 1) && ks.getD 0 false) = true by rw [hc.1, hc.2]; rfl]
    refine cond_i (fun _ => ?_) (fun h => by cases h)
    refine join_i (fun c w' => c = true ∧ w9 = w') ?_ fun J hJ => ?_
    rotate_left
    · refine cond_i (fun _ => ?_) (fun h => by cases h)
      refine b2s_i o9.rd ?_
      refine b2s_i (hb1.ext E9) ?_
      exact hJ _ _ ⟨by simp, rfl⟩
    rintro c w' ⟨rfl, rfl⟩
    refine join_i (fun c w' => c = true ∧ w9 = w') ?_ fun J hJ => ?_
    rotate_left
    · refine cond_i (fun _ => ?_) (fun h => by cases h)
      exact ld1_i (l := .int .i64) (400 : Int) v9 rfl (hJ _ _ ⟨rfl, rfl⟩)
    rintro c w' ⟨rfl, rfl⟩
    exact hfin
  · rw [if_neg hc] at o9 v9 ⊢
    rw [show (decide (arm = 1) && ks.getD 0 false) = false by rw [Bool.eq_false_iff]; intro h; rw [Bool.and_eq_true, decide_eq_true_eq] at h; exact hc h]
    refine cond_i (fun h => by cases h) (fun _ => ?_)
    refine join_i (fun c w' => c = true ∧ w9 = w') ?_ fun J hJ => ?_
    rotate_left
    · refine cond_i (fun _ => ?_) (fun h => by cases h)
      refine b2s_i o9.rd ?_
      refine b2s_i (ha1.ext E9) ?_
      exact hJ _ _ ⟨by simp, rfl⟩
    rintro c w' ⟨rfl, rfl⟩
    refine join_i (fun c w' => c = true ∧ w9 = w') ?_ fun J hJ => ?_
    rotate_left
    · refine cond_i (fun _ => ?_) (fun h => by cases h)
      exact ld1_i (l := .int .i64) (0 : Int) v9 rfl (hJ _ _ ⟨rfl, rfl⟩)
    rintro c w' ⟨rfl, rfl⟩
    exact hfin
end Go.Proofs.Ytepjheacppoelaa
