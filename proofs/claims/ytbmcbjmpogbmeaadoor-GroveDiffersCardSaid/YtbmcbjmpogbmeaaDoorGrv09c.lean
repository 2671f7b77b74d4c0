/- Layer 9 (grove): the document's blocks and trees. -/
import Derived.Test.YtbmcbjmpogbmeaaDoorGrv09b
set_option linter.unusedSimpArgs false
set_option linter.unusedVariables false
namespace Go.S
open Go Go.Eng
theorem fit_set {B : Nat} {xs : List UInt8} (b : UInt8) (h : xs.length < B) : (fit B xs).set xs.length b = fit B (xs ++ [b]) := by
  unfold fit
  rw [show B - xs.length = (B - (xs ++ [b]).length) + 1 by simp; omega, List.replicate_succ, List.set_append_right _ _ (Nat.le_refl _), Nat.sub_self, List.set_cons_zero]
  simp
theorem fit_nil (B : Nat) : fit B [] = List.replicate B 0 := by simp [fit]
theorem shp_n {x : Shp} (o : x.Ok) : x.aN * x.dN = x.bN := o.ba.symm
end Go.S
namespace Go.Proofs.YtbmcbjmpogbmeaaDoor
open Go Go.Eng
set_option maxHeartbeats 1600000 in
theorem rBlock_s {a : Int} {x : S.Shp} {p1 p3 : Sl} {salt data : List UInt8} (o : x.Ok) (ha : S.dsz a = x.d) (hl : data.length ≤ 100000) (hsl : salt.length ≤ 100000) : ∀ (l i : Nat) {K : Sl → World → Prop} {w : World}, Bts w p1 salt → Bts w p3 data → l ≤ x.h → i ≤ 17179869184 →
    (∀ v w', Ext w w' → OwnB w' w.heap.size v (x.blk (S.dg a salt) data l i) → K v w') →
    callS Tryd.prog 33 #[.int .i64 a, .slice p1.a p1.len p1.cap, .agg #[.int .i64 x.s, .int .i64 x.b, .int .i64 x.d], .slice p3.a p3.len p3.cap, .agg #[.int .i64 (i : Int), .int .i64 (l : Int)]] [.one .slc] K w
  | l, i, K, w, hs, hd, hlh, hi, hK => by
    have hb1 := o.b1
    have hb2 := o.b2
    have hdd := o.dd
    have ha1 := o.a1
    have ha2 := o.a2
    have hq1 : S.dsz a ≠ 0 := by rw [ha, o.d]; omega
    have hH : ∀ y, (S.dg a salt y).length = x.dN := fun y => by rw [S.dg_len hq1 salt y, ha]; rfl
    have hdl := Bts.len hd
    refine f33_ok ?_
    unfold f33
    refine box_i fun g1 w1 e1 hg1 v1 => ?_
    have v1 : Var w1 g1 (shC x) := v1
    refine box_i fun g2 w2 e2 hg2 v2 => ?_
    have v2 : Var w2 g2 (plC i l) := v2
    have v1 := v1.ext e2
    have E2 := e1.trans e2
    refine ld1_i (l := .int .i64) (o := 1) x.b v1 rfl ?_
    rw [o.b]
    refine makeB_i (by omega) (by omega) fun v w3 e3 o3 => ?_
    rw [Int.toNat_natCast, ← S.fit_nil] at o3
    have hvl : v.len = x.bN := by rw [OwnB.len o3, S.fit_nil, List.length_replicate]
    refine ld1_i (l := .int .i64) (o := 1) (l : Int) (v2.ext e3) rfl ?_
    have hib : i * x.bN ≤ 17179869184 * 4096 := Nat.mul_le_mul hi hb2
    match l, hlh with
    | 0, _ =>
      refine cond_i (fun _ => ?_) (fun h => by cases h)
      have hdr : (data.drop (i * x.bN)).length = data.length - i * x.bN := List.length_drop
      refine loop_i (fun (k' : Int) w' => ∃ k : Nat, k' = k ∧ k ≤ x.bN ∧ k ≤ (data.drop (i * x.bN)).length ∧ Ext w2 w' ∧ OwnB w' w2.heap.size v (S.fit x.bN ((data.drop (i * x.bN)).take k))) (fun k' _ => x.bN - k'.toNat) ⟨0, rfl, by omega, by omega, e3, o3⟩ ?_
      rintro _ w4 again ⟨k, rfl, hkB, hkd, e4, o4⟩ hag
      refine ld1_i (l := .int .i64) (o := 1) x.b (v1.ext e4) rfl ?_
      rw [o.b]
      have hix : ∀ {Q : Int → World → Prop}, Q (((i * x.bN + k : Nat) : Int)) w4 → Q (IntKind.wrap .i64 ((IntKind.wrap .i64 ((i : Int) * (x.bN : Int))) + (k : Int))) w4 := fun h => by
        rw [← Int.natCast_mul, wrap_nat (n := i * x.bN) (by omega), ← Int.natCast_add, wrap_nat (n := i * x.bN + k) (by omega)]; exact h
      refine join_i (fun c w' => c = (decide (k < x.bN) && decide (k < (data.drop (i * x.bN)).length)) ∧ w4 = w') ?_ fun J hJ => ?_
      rotate_left
      · refine cond_i (fun h => ?_) (fun h => ?_)
        · have h : k < x.bN := by have : (k : Int) < (x.bN : Int) := of_decide_eq_true h
                                  omega
          refine ld1_i (l := .int .i64) (o := 0) (i : Int) (v2.ext e4) rfl ?_
          refine ld1_i (l := .int .i64) (o := 1) x.b (v1.ext e4) rfl ?_
          rw [o.b]
          refine hix (Q := fun q w => J (decide (q < (p3.len : Int))) w) (hJ _ _ ⟨?_, rfl⟩)
          rw [decide_eq_true h, Bool.true_and]
          exact decide_eq_decide.2 (by rw [hdr]; omega)
        · have h : ¬ k < x.bN := by have : ¬ (k : Int) < (x.bN : Int) := of_decide_eq_false h
                                    omega
          exact hJ _ _ ⟨by rw [decide_eq_false h]; rfl, rfl⟩
      rintro c w' ⟨rfl, rfl⟩
      refine cond_i (fun h => ?_) (fun h => ?_)
      · simp only [Bool.and_eq_true, decide_eq_true_eq] at h
        obtain ⟨h1, h2⟩ := h
        refine ld1_i (l := .int .i64) (o := 0) (i : Int) (v2.ext e4) rfl ?_
        refine ld1_i (l := .int .i64) (o := 1) x.b (v1.ext e4) rfl ?_
        rw [o.b, ← Int.natCast_mul, wrap_nat (n := i * x.bN) (by omega), ← Int.natCast_add, wrap_nat (n := i * x.bN + k) (by omega)]
        have hlt : i * x.bN + k < data.length := by rw [hdr] at h2; omega
        refine elem_i (l := .int .u8) (x := ((data[i * x.bN + k]'hlt).toNat : Int)) (hd.ext (E2.trans e4)) (by omega) (by omega) (by rw [Int.toNat_natCast]; exact bytes_get hlt) ?_
        refine put1_i (data[i * x.bN + k]'hlt) o4 (by omega) (by omega) rfl fun w5 f5 o5 => ?_
        have ht : ((data.drop (i * x.bN)).take k).length = k := by rw [List.length_take]; omega
        have hsnoc : (data.drop (i * x.bN)).take (k + 1) = (data.drop (i * x.bN)).take k ++ [data[i * x.bN + k]'hlt] := by
          rw [List.take_succ_eq_append_getElem h2, List.getElem_drop]
        have hset := S.fit_set (B := x.bN) (xs := (data.drop (i * x.bN)).take k) (data[i * x.bN + k]'hlt) (by omega)
        rw [ht, ← hsnoc] at hset
        rw [Int.toNat_natCast, hset] at o5
        have hkk : IntKind.wrap .i64 ((k : Int) + 1) = ((k + 1 : Nat) : Int) := wrap_nat (n := k + 1) (by omega)
        rw [hkk]
        exact hag _ w5 ⟨k + 1, rfl, by omega, by omega, Ext.own e4 f5 fun q hq => (o4.inB hq).1, o5⟩ (by omega)
      · refine hK v w4 (E2.trans e4) ?_
        have hfin : (data.drop (i * x.bN)).take k = (data.drop (i * x.bN)).take x.bN := by
          simp only [Bool.and_eq_false_iff, decide_eq_false_iff_not] at h
          rcases h with h | h
          · rw [show k = x.bN by omega]
          · rw [List.take_of_length_le (by omega), List.take_of_length_le (by omega)]
        rw [hfin] at o4
        exact Own.base o4 E2.size
    | l + 1, hlh =>
      refine cond_i (fun h => by have : ((l + 1 : Nat) : Int) = 0 := by simpa using h
                                 omega) (fun _ => ?_)
      have hd3 := Ext.drew w3
      have e3 : Ext w2 w3 := e3
      refine ⟨fun y => Ext w2 y, e3.trans hd3, ?_⟩
      refine ldShQ_i (fun y hy => v1.ext hy) ?_
      refine ld1Q_i (l := .int .i64) (o := 1) ((l + 1 : Nat) : Int) (fun y hy => v2.ext hy) rfl ?_
      refine rCounts_s o fun cv w4 e4 o4 => ?_
      have e34 := hd3.trans e4
      have e24 := e3.trans e34
      have hcl := OwnB.len (w := w4) (B := w4.heap.size) (s := Sl.nil) (bs := []) (Own.nilSl _ _ 1)
      refine more2_i (fun y => Ext w4 y) (Fr.refl _ _) (fun y hy => e24.trans hy) ?_
      have o4l := o4.len
      rw [List.length_map, S.Shp.cs_len, Nat.mul_one] at o4l
      obtain ⟨ca, hca⟩ := o4.rd.some (by omega)
      have hl1 : IntKind.wrap .i64 (((l + 1 : Nat) : Int) - 1) = (l : Int) := by rw [show ((l + 1 : Nat) : Int) - 1 = (l : Int) by omega]; exact wrap_nat (by have := S.Shp.h_le o; omega)
      rw [hl1]
      refine elemQ_i (l := .int .i64) (x := (x.c l : Int)) hca (fun y hy => (Own.ext o4 hy).rd) (by omega) (by omega) (by rw [Int.toNat_natCast, List.getElem?_map, S.Shp.cs_get (by omega)]; rfl) ?_
      have hcm := S.Shp.c_max o l
      refine ld1_i (l := .int .i64) (o := 1) x.b (v1.ext e24) rfl ?_
      refine ld1_i (l := .int .i64) (o := 2) x.d (v1.ext e24) rfl ?_
      refine quo_i (by rw [o.d]; omega) ?_
      rw [aN_i o]
      have o34 := Own.ext o3 e34
      have hm : min x.aN (x.c l - i * x.aN) ≤ x.aN := Nat.min_le_left _ _
      have hia : i * x.aN ≤ 17179869184 * 128 := Nat.mul_le_mul hi ha2
      have hpl : ∀ k, k ≤ x.aN → ((List.range k).flatMap fun k => S.dg a salt (x.blk (S.dg a salt) data l (i * x.aN + k))).length = k * x.dN := fun k _ => S.flat_len (fun k => hH _) k
      refine loop_i (fun (k' : Int) w' => ∃ k : Nat, k' = k ∧ k ≤ min x.aN (x.c l - i * x.aN) ∧ Ext w2 w' ∧ OwnB w' w2.heap.size v (S.fit x.bN ((List.range k).flatMap fun k => S.dg a salt (x.blk (S.dg a salt) data l (i * x.aN + k))))) (fun k' _ => x.aN - k'.toNat) ⟨0, rfl, by omega, e24, o34⟩ ?_
      rintro _ w5 again ⟨k, rfl, hk, e5, o5⟩ hag
      have hkn : k ≤ x.aN := by omega
      have hsum : IntKind.wrap .i64 ((IntKind.wrap .i64 ((i : Int) * (x.aN : Int))) + (k : Int)) = ((i * x.aN + k : Nat) : Int) := by
        rw [← Int.natCast_mul, wrap_nat (n := i * x.aN) (by omega), ← Int.natCast_add, wrap_nat (n := i * x.aN + k) (by omega)]
      refine join_i (fun c w' => c = decide (k < min x.aN (x.c l - i * x.aN)) ∧ w5 = w') ?_ fun J hJ => ?_
      rotate_left
      · refine cond_i (fun h => ?_) (fun h => ?_)
        · have h : k < x.aN := by have : (k : Int) < (x.aN : Int) := of_decide_eq_true h
                                  omega
          refine ld1_i (l := .int .i64) (o := 0) (i : Int) (v2.ext e5) rfl ?_
          refine hJ _ _ ⟨?_, rfl⟩
          rw [hsum]
          exact decide_eq_decide.2 (by omega)
        · have h : ¬ k < x.aN := by have : ¬ (k : Int) < (x.aN : Int) := of_decide_eq_false h
                                    omega
          exact hJ _ _ ⟨by rw [decide_eq_false (by omega)], rfl⟩
      rintro c w' ⟨rfl, rfl⟩
      refine cond_i (fun h => ?_) (fun h => ?_)
      · have h : k < min x.aN (x.c l - i * x.aN) := of_decide_eq_true h
        refine ldSh_i (v1.ext e5) ?_
        refine ld1_i (l := .int .i64) (o := 0) (i : Int) (v2.ext e5) rfl ?_
        refine ld1_i (l := .int .i64) (o := 1) ((l + 1 : Nat) : Int) (v2.ext e5) rfl ?_
        rw [hsum, hl1]
        refine rBlock_s o ha hl hsl l (i * x.aN + k) (hs.ext (E2.trans e5)) (hd.ext (E2.trans e5)) (by omega) (by omega) fun r6 w6 e6 o6 => ?_
        have E6 := e5.trans e6
        refine rdig_s (hs.ext (E2.trans E6)) o6.rd hq1 (by rw [S.Shp.blk_len o hH]; omega) fun r7 w7 e7 o7 => ?_
        have E7 := E6.trans e7
        have hpk := hpl k hkn
        have hb7 := hH (x.blk (S.dg a salt) data l (i * x.aN + k))
        have hsn : ((List.range (k + 1)).flatMap fun k => S.dg a salt (x.blk (S.dg a salt) data l (i * x.aN + k))) = ((List.range k).flatMap fun k => S.dg a salt (x.blk (S.dg a salt) data l (i * x.aN + k))) ++ S.dg a salt (x.blk (S.dg a salt) data l (i * x.aN + k)) := by
          rw [List.range_succ, List.flatMap_append]; simp
        have o57 := Own.ext o5 (e6.trans e7)
        have hag' := fun w' (e : Ext w2 w') o => hag ((k + 1 : Nat) : Int) w' ⟨k + 1, rfl, by omega, e, o⟩ (by rw [Int.toNat_natCast, Int.toNat_natCast]; omega)
        rw [hsn] at hag'
        generalize S.dg a salt (x.blk (S.dg a salt) data l (i * x.aN + k)) = dd at o7 hb7 hag'
        generalize ((List.range k).flatMap fun k => S.dg a salt (x.blk (S.dg a salt) data l (i * x.aN + k))) = pp at o57 hpk hag'
        have hr7 := OwnB.len o7
        have hkD : (k + 1) * x.dN ≤ x.aN * x.dN := Nat.mul_le_mul_right _ (by omega)
        rw [S.shp_n o, Nat.succ_mul] at hkD
        have hw6 := E6.size
        have hv7 : ∀ q, v.inB q → q < w7.heap.size ∧ w2.heap.size ≤ q := fun q hq => ⟨(o57.inB hq).2, (o57.inB hq).1⟩
        have hrv : ∀ q, r7.inB q → ¬ v.inB q := fun q hq hv => by have h1 := (o7.inB hq).1; have h2 := (o5.ext e6 |>.inB hv).2; omega
        refine loop_i (fun (j' : Int) w' => ∃ j : Nat, j' = j ∧ j ≤ dd.length ∧ Ext w2 w' ∧ Bts w' r7 dd ∧ OwnB w' w2.heap.size v (S.fit x.bN (pp ++ dd.take j))) (fun j' _ => dd.length - j'.toNat) ⟨0, rfl, by omega, E7, o7.rd, by simpa using o57⟩ ?_
        rintro _ w8 again2 ⟨j, rfl, hj, e8, h8, o8⟩ hag2
        refine cond_i (fun hlt => ?_) (fun hge => ?_)
        · have hj' : j < dd.length := by have : (j : Int) < (r7.len : Int) := of_decide_eq_true hlt
                                         omega
          have hd8 := Ext.drew w8
          refine ⟨fun y => Ext w8 y, hd8, ?_⟩
          refine ld1Q_i (l := .int .i64) (o := 2) x.d (fun y hy => (v1.ext e8).ext hy) rfl ?_
          obtain ⟨ra, hra⟩ := h8.some (by omega)
          refine elemQ_i (l := .int .u8) (x := ((dd[j]'hj').toNat : Int)) hra (fun y hy => h8.ext hy) (by omega) (by omega) (by rw [Int.toNat_natCast]; exact bytes_get hj') ?_
          have hpos : IntKind.wrap .i64 ((IntKind.wrap .i64 ((k : Int) * x.d)) + (j : Int)) = ((k * x.dN + j : Nat) : Int) := by
            rw [o.d, ← Int.natCast_mul, wrap_nat (n := k * x.dN) (by omega), ← Int.natCast_add, wrap_nat (n := k * x.dN + j) (by omega)]
          rw [hpos]
          have hlv : k * x.dN + j < v.len := by omega
          obtain ⟨va, hva⟩ := o8.rd.some (by omega)
          refine ixQ_i hva (by omega) (by omega) ?_
          rw [Int.toNat_natCast, Nat.mul_one]
          obtain ⟨⟨q, hu⟩, hfz, fr, o'⟩ := Own.set (Own.ext o8 hd8) hva hlv (vB (dd[j]'hj'))
          refine st_i hu hfz rfl ?_
          show again2 _ (w8.drew.setCell (va.add (k * x.dN + j)) (vB (dd[j]'hj')))
          generalize w8.drew.setCell (va.add (k * x.dN + j)) (vB (dd[j]'hj')) = w9 at fr o'
          have o9 : OwnB w9 w2.heap.size v ((S.fit x.bN (pp ++ dd.take j)).set (k * x.dN + j) (dd[j]'hj')) := by
            unfold OwnB; rw [List.map_set]; exact o'
          have hplj : (pp ++ dd.take j).length = k * x.dN + j := by rw [List.length_append, List.length_take]; omega
          have hset := S.fit_set (B := x.bN) (xs := pp ++ dd.take j) (dd[j]'hj') (by omega)
          rw [hplj, List.append_assoc, ← List.take_succ_eq_append_getElem hj'] at hset
          rw [hset] at o9
          have hjj : IntKind.wrap .i64 ((j : Int) + 1) = ((j + 1 : Nat) : Int) := wrap_nat (n := j + 1) (by omega)
          rw [hjj]
          refine hag2 _ w9 ⟨j + 1, rfl, by omega, Ext.own (e8.trans hd8) fr fun q hq => (hv7 q hq).2, ?_, o9⟩ (by omega)
          exact (h8.ext hd8).fr fr fun a ha hq => hrv _ ⟨a, ha, rfl⟩ hq
        · have hj' : j = dd.length := by have : ¬ (j : Int) < (r7.len : Int) := of_decide_eq_false hge
                                         omega
          subst hj'
          rw [List.take_length] at o8
          have hkk : IntKind.wrap .i64 ((k : Int) + 1) = ((k + 1 : Nat) : Int) := wrap_nat (n := k + 1) (by omega)
          rw [hkk]
          exact hag' w8 e8 o8
      · have h : ¬ k < min x.aN (x.c l - i * x.aN) := of_decide_eq_false h
        have hk' : k = min x.aN (x.c l - i * x.aN) := by omega
        rw [hk'] at o5
        exact hK v w5 (E2.trans e5) (Own.base o5 E2.size)
set_option maxHeartbeats 800000 in
theorem rTree_s {a : Int} {x : S.Shp} {p1 p3 : Sl} {salt data : List UInt8} {K : Sl → Sl → World → Prop} {w : World} (o : x.Ok) (ha : S.dsz a = x.d) (hl : data.length ≤ 100000) (hsN : x.sN = data.length) (hsl : salt.length ≤ 100000) (hs : Bts w p1 salt) (hd : Bts w p3 data)
    (hK : ∀ t r w', Ext w w' → OwnB w' w.heap.size t (x.tree (S.dg a salt) data) → OwnB w' w.heap.size r (x.root (S.dg a salt) data) → K t r w') :
    callS Tryd.prog 17 #[.int .i64 a, .slice p1.a p1.len p1.cap, .agg #[.int .i64 x.s, .int .i64 x.b, .int .i64 x.d], .slice p3.a p3.len p3.cap] [.one .slc, .one .slc] K w := by
  refine f17_ok ?_
  unfold f17
  have hb1 := o.b1
  have hb2 := o.b2
  have hdd := o.dd
  have hq1 : S.dsz a ≠ 0 := by rw [ha, o.d]; omega
  have hH : ∀ y, (S.dg a salt y).length = x.dN := fun y => by rw [S.dg_len hq1 salt y, ha]; rfl
  have hh := S.Shp.h_le o
  have hc0 := S.Shp.c0_le o
  have hcb : ∀ l, x.c l * x.bN ≤ 104096 := fun l => by
    have := Nat.mul_le_mul_right x.bN (S.Shp.c_anti o (j := 0) (k := l) (by omega))
    omega
  have htr : ∀ l, l ≤ x.h → (x.tr (S.dg a salt) data l).length ≤ 35 * 104096 := fun l hl => by
    have h1 := S.Shp.tr_len (data := data) o hH l
    have h3 := Nat.mul_le_mul (show l ≤ 35 by omega) (hcb 0)
    omega
  refine box_i fun g w1 e1 hg v1 => ?_
  have v1 : Var w1 g (shC x) := v1
  refine ldSh_i v1 ?_
  refine rCounts_s o fun cv w2 e2 o2 => ?_
  have E2 := e1.trans e2
  have v2 := v1.ext e2
  have o2l := o2.len
  rw [List.length_map, S.Shp.cs_len, Nat.mul_one] at o2l
  have hh1 : IntKind.wrap .i64 ((cv.len : Int) - 1) = (x.h : Int) := by rw [show (cv.len : Int) - 1 = (x.h : Int) by omega]; exact wrap_nat (by omega)
  rw [hh1]
  refine loop_i (fun (st : Sl × Int) w' => ∃ (l : Nat) (out : List UInt8), st.2 = l ∧ l ≤ x.h ∧ Ext w2 w' ∧ OwnB w' w2.heap.size st.1 out ∧ out ++ x.tr (S.dg a salt) data l = x.tree (S.dg a salt) data) (fun st _ => st.2.toNat) ⟨x.h, [], rfl, Nat.le_refl _, Fr.refl _ _, Own.nilSl _ _ _, rfl⟩ ?_
  rintro ⟨t, l'⟩ w3 again ⟨l, out, hl', hlh, e3, o3, hout⟩ hag
  dsimp only at hl' o3 ⊢
  subst hl'
  refine cond_i (fun hge => ?_) (fun hlt => ?_)
  · have hge : (l : Int) ≥ 1 := of_decide_eq_true hge
    obtain ⟨l, rfl⟩ : ∃ m, l = m + 1 := ⟨l - 1, by omega⟩
    have hol : out.length + (x.lev (S.dg a salt) data (l + 1)).length ≤ 35 * 104096 := by
      have h1 := congrArg List.length hout
      rw [S.Shp.tr, List.length_append, List.length_append] at h1
      have h2 := htr x.h (Nat.le_refl _)
      unfold S.Shp.tree at h1
      omega
    have hcm := S.Shp.c_max o (l + 1)
    rw [S.Shp.lev_len o hH] at hol
    refine loop_i (fun (st : Sl × Int) w' => ∃ (i : Nat), st.2 = i ∧ i ≤ x.c (l + 1) ∧ Ext w2 w' ∧ OwnB w' w2.heap.size st.1 (out ++ (List.range i).flatMap (x.blk (S.dg a salt) data (l + 1)))) (fun st _ => x.c (l + 1) - st.2.toNat) ⟨0, rfl, by omega, e3, by simpa using o3⟩ ?_
    rintro ⟨t', i'⟩ w4 again2 ⟨i, hi', hi, e4, o4⟩ hag2
    dsimp only at hi' o4 ⊢
    subst hi'
    refine elem_i (l := .int .i64) (x := (x.c (l + 1) : Int)) (Own.ext o2 e4).rd (by omega) (by omega) (by rw [Int.toNat_natCast, List.getElem?_map, S.Shp.cs_get (by omega)]; rfl) ?_
    refine cond_i (fun hlt => ?_) (fun hge => ?_)
    · have hlt : i < x.c (l + 1) := by have : (i : Int) < (x.c (l + 1) : Int) := of_decide_eq_true hlt
                                       omega
      refine ldSh_i (v2.ext e4) ?_
      refine rBlock_s o ha hl hsl (l + 1) i (hs.ext (E2.trans e4)) (hd.ext (E2.trans e4)) hlh (by omega) fun r w5 e5 o5 => ?_
      have hbl := S.Shp.blk_len (data := data) o hH (l + 1) i
      have hfl := S.flat_len (S.Shp.blk_len (data := data) o hH (l + 1)) i
      have hle := Nat.mul_le_mul_right x.bN (show i + 1 ≤ x.c (l + 1) by omega)
      rw [Nat.succ_mul] at hle
      refine appendB_i (Own.ext o4 e5) o5.rd (by rw [List.length_append, hfl, hbl]; omega) (e4.trans e5).size fun v w6 f6 o6 hin => ?_
      have hii : IntKind.wrap .i64 ((i : Int) + 1) = ((i + 1 : Nat) : Int) := wrap_nat (n := i + 1) (by omega)
      rw [hii]
      refine hag2 _ w6 ⟨i + 1, rfl, by omega, Ext.own (e4.trans e5) f6 fun k hk => (o4.inB hk).1, ?_⟩ ?_
      · rw [List.range_succ, List.flatMap_append, ← List.append_assoc]; simpa using o6
      · dsimp only; omega
    · have hge : i = x.c (l + 1) := by have : ¬ (i : Int) < (x.c (l + 1) : Int) := of_decide_eq_false hge
                                       omega
      subst hge
      have hll : IntKind.wrap .i64 (((l + 1 : Nat) : Int) - 1) = (l : Int) := by rw [show ((l + 1 : Nat) : Int) - 1 = (l : Int) by omega]; exact wrap_nat (by omega)
      rw [hll]
      refine hag _ w4 ⟨l, _, rfl, by omega, e4, o4, ?_⟩ (by dsimp only; omega)
      rw [← hout, S.Shp.tr, List.append_assoc]; rfl
  · have hl0 : l = 0 := by have : ¬ (l : Int) ≥ 1 := of_decide_eq_false hlt
                           omega
    subst hl0
    rw [S.Shp.tr, List.append_nil] at hout
    subst hout
    refine ldSh_i (v2.ext e3) ?_
    refine rBlock_s o ha hl hsl x.h 0 (hs.ext (E2.trans e3)) (hd.ext (E2.trans e3)) (Nat.le_refl _) (by omega) fun r w5 e5 o5 => ?_
    have E5 := (E2.trans e3).trans e5
    refine rdig_s (hs.ext E5) o5.rd hq1 (by rw [S.Shp.blk_len o hH]; omega) fun r7 w7 e7 o7 => ?_
    exact hK t r7 w7 (E5.trans e7) (Own.base (Own.ext o3 (e5.trans e7)) E2.size) (Own.base o7 E5.size)
end Go.Proofs.YtbmcbjmpogbmeaaDoor
