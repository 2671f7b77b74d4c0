/- Layer 9 (grove): the law GroveTurned. -/
import Derived.Test.YtbmcbjmpogbmeaaDoorLaw09e
import Derived.Test.YtbmcbjmpogbmeaaDoorPure09c
set_option linter.unusedSimpArgs false
set_option linter.unusedVariables false
namespace Go.Proofs.YtbmcbjmpogbmeaaDoor
open Go Go.Eng
theorem pair_s {y z : SM} {i : Nat} {p q : List UInt8} {K : Bool → World → Prop} {w : World} (hy : y.Ok w) (hz : z.Ok w) (h1 : z.alg = y.alg) (h2 : z.salt.2 = y.salt.2) (h3 : z.shp = y.shp) (hr : y.right = true) (hrz : z.right = true) (hd : y.data.2.length ≤ 100000) (hdz : z.data.2.length ≤ 100000) (hi : i < y.shp.c 0)
    (hdif : S.difR (y.shp.onPath y.H y.data.2 i).reverse (y.shp.onPath y.H z.data.2 i).reverse = some (p, q)) (hne : p ≠ q) (hl : p.length = q.length) (hp : p.length ≤ 100000) (hH : y.H p = y.H q) (hK : ∀ w', Ext w w' → K true w') :
    callS Tryd.prog 19 #[.agg y.cells.toArray, .agg z.cells.toArray, .int .i64 (i : Int)] [.one .bool] K w := by
  refine f19_ok (p0_0 := y.alg) (p0_1 := y.blk) (p0_2 := y.salt.1) (p0_3 := y.data.1) (p1_0 := z.alg) (p1_1 := z.blk) (p1_2 := z.salt.1) (p1_3 := z.data.1) ?_
  unfold f19
  have hsl := Bts.len hy.salt
  have hdl := Bts.len hy.data
  obtain ⟨q1, q2⟩ := SM.right_of hr
  have o := S.Shp.ok_of q1
  have hdz' := SM.dsz_of q1
  have hHl : ∀ u, (y.H u).length = y.shp.dN := fun u => S.dg_len hdz' _ u
  have hb2 := o.b2
  have hh := S.Shp.h_le o
  refine box_i fun g1 w1 e1 hg1 v1 => ?_
  have v1 : Var w1 g1 y.cells := v1
  refine box_i fun g2 w2 e2 hg2 v2 => ?_
  have v2 : Var w2 g2 z.cells := v2
  have v1 := v1.ext e2
  have E2 := e1.trans e2
  refine ldM_i v1 ?_
  refine seedShape_s hsl hdl fun w3 e3 => ?_
  refine alloc_i fun gx w4 e4 hgx vx => ?_
  refine stSh_i (x := y.shp) vx rfl fun w5 f5 v5 => ?_
  have e35 : Ext w3 w5 := Fr.own1 e4 f5 hgx
  have e25 := e3.trans e35
  have E5 := E2.trans e25
  have v15 := v1.ext e25
  have v25 := v2.ext e25
  rw [hr]
  refine cond_i (fun h => by cases h) (fun _ => ?_)
  have hdr := Ext.drew w5
  refine ⟨fun x => Ext w5 x, hdr, ?_⟩
  refine ldMQ_i (fun x hx => v15.ext hx) (ldShQ_i (fun x hx => v5.ext hx) (ldMQ_i (fun x hx => v25.ext hx) (ldShQ_i (fun x hx => v5.ext hx) ?_)))
  refine blocks_s (hy.ext (E5.trans hdr)) rfl hr hd hi fun b1 xs w6 e6 ox hx => ?_
  have e56 := hdr.trans e6
  refine more_i e56 ?_
  have E6 := E5.trans e56
  refine blocks_s (y := z) (hz.ext E6) h3.symm hrz hdz hi fun b2 ys w7 e7 oy hyy => ?_
  have hzH : z.H = y.H := by unfold SM.H; rw [h1, h2]
  rw [hzH] at hyy
  have E7 := E6.trans e7
  have hxl : xs.length = y.shp.h + 1 := by have := congrArg List.length hx; rwa [List.length_map, S.Shp.onPath_len] at this
  have hyl : ys.length = y.shp.h + 1 := by have := congrArg List.length hyy; rwa [List.length_map, S.Shp.onPath_len] at this
  have hbx : ∀ u ∈ xs, u.2.length ≤ 68719476736 := fun u hu => by
    have := S.Shp.onPath_mem o hHl (show u.2 ∈ y.shp.onPath y.H y.data.2 i by rw [← hx]; exact List.mem_map_of_mem hu)
    omega
  have hby : ∀ u ∈ ys, u.2.length ≤ 68719476736 := fun u hu => by
    have := S.Shp.onPath_mem o hHl (show u.2 ∈ y.shp.onPath y.H z.data.2 i by rw [← hyy]; exact List.mem_map_of_mem hu)
    omega
  have hrx : rv xs = (y.shp.onPath y.H y.data.2 i).reverse := by unfold rv; rw [hx]
  have hry : rv ys = (y.shp.onPath y.H z.data.2 i).reverse := by unfold rv; rw [hyy]
  refine differ_s (ox.parts.ext e7) oy.parts (by omega) (by omega) hbx hby (fun h => by rw [hrx, hry, hdif] at h; cases h) fun p' q' hpq r1 r2 w8 e8 o1 o2 => ?_
  rw [hrx, hry, hdif] at hpq
  obtain ⟨rfl, rfl⟩ : p = p' ∧ q = q' := by cases hpq; exact ⟨rfl, rfl⟩
  have E8 := E7.trans e8
  have v18 := ((v15.ext e56).ext e7).ext e8
  have hd8 := Ext.drew w8
  refine ⟨fun x => Ext w8 x, hd8, ?_⟩
  refine cond_i (fun _ => ?_) (fun h => by cases h)
  refine b2sQ_i (fun x hx => (Own.ext o1 hx).rd) (b2sQ_i (fun x hx => (Own.ext o2 hx).rd) ?_)
  have hl1 := OwnB.len o1
  have hl2 := OwnB.len o2
  refine cond_i (fun _ => ?_) (fun h => by rw [str_toList, str_toList] at h; simp [hne] at h)
  refine cond_i (fun _ => ?_) (fun h => by rw [hl1, hl2, hl] at h; simp at h)
  refine ld1Q_i (l := .int .i64) (o := 0) y.alg (fun x hx => v18.ext hx) rfl (ld1Q_i (l := .slc) (o := 2) y.salt.1 (fun x hx => v18.ext hx) rfl (ld1Q_i (l := .int .i64) (o := 0) y.alg (fun x hx => v18.ext hx) rfl (ld1Q_i (l := .slc) (o := 2) y.salt.1 (fun x hx => v18.ext hx) rfl ?_)))
  have hyd := hy.ext (E8.trans hd8)
  refine rdig_s hyd.salt (Own.ext o1 hd8).rd hdz' (by omega) fun r3 w9 e9 o3 => ?_
  have e89 := hd8.trans e9
  refine more2_i (fun x => Ext w9 x) (Fr.refl _ _) (fun x hx => e89.trans hx) ?_
  refine b2sQ_i (fun x hx => (Own.ext o3 hx).rd) ?_
  refine rdig_s (hyd.salt.ext e9) (Own.ext o2 e89).rd hdz' (by omega) fun r4 w10 e10 o4 => ?_
  refine more2_i (fun x => Ext w10 x) (Fr.refl _ _) (fun x hx => e10.trans hx) ?_
  refine b2sQ_i (fun x hx => (Own.ext o4 hx).rd) ?_
  have := hK w10 ((E8.trans e89).trans e10)
  have hH' : S.dg y.alg y.salt.2 p = S.dg y.alg y.salt.2 q := hH
  rw [str_toList, str_toList, hH', beq_self_eq_true]
  exact this
theorem xor_ne {b c : UInt8} (h : b ^^^ c = b) : c = 0 := by
  have h2 : b ^^^ (b ^^^ c) = b ^^^ b := by rw [h]
  rwa [← UInt8.xor_assoc, UInt8.xor_self, UInt8.zero_xor] at h2
/-- Two seeds that differ in a byte, and have one root. -/
theorem turned_way {x : S.Shp} {H : List UInt8 → List UInt8} {data : List UInt8} {n : Nat} {c : UInt8} (o : x.Ok) (hH : ∀ y, (H y).length = x.dN) (hs : x.sN = data.length) (hn : n < data.length) (hc : c ≠ 0) (hr : x.root H data = x.root H (data.set n (data[n]'hn ^^^ c))) :
    ∃ p q, S.difR (x.onPath H data (n / x.bN)).reverse (x.onPath H (data.set n (data[n]'hn ^^^ c)) (n / x.bN)).reverse = some (p, q) ∧ p ≠ q ∧ p.length = x.bN ∧ q.length = x.bN ∧ H p = H q := by
  have hb1 := o.b1
  have hic : n / x.bN < x.c 0 := by
    show _ < S.up x.sN x.bN
    rw [S.up_iff (by omega) (by omega)]
    have := Nat.div_mul_le_self n x.bN
    omega
  cases hd : S.difR (x.onPath H data (n / x.bN)).reverse (x.onPath H (data.set n (data[n]'hn ^^^ c)) (n / x.bN)).reverse with
  | none =>
    exfalso
    have he := List.reverse_inj.1 (S.difR_none (by simp [S.Shp.onPath_len]) hd)
    have h0 := S.Shp.onPath_get (x := x) (H := H) (data := data) (i := n / x.bN) (Nat.zero_le _)
    have h1 := S.Shp.onPath_get (x := x) (H := H) (data := data.set n (data[n]'hn ^^^ c)) (i := n / x.bN) (Nat.zero_le _)
    rw [he, h1] at h0
    have h2 := Option.some.inj h0
    rw [Nat.pow_zero, Nat.div_one] at h2
    have h3 := S.Shp.blk_byte (H := H) o hn
    have h4 := S.Shp.blk_byte (H := H) (data := data.set n (data[n]'hn ^^^ c)) o (n := n) (by rw [List.length_set]; exact hn)
    rw [h2, h3, List.getElem?_set_self hn, List.getElem?_eq_getElem hn] at h4
    exact hc (xor_ne (Option.some.inj h4).symm)
  | some pq =>
    obtain ⟨p, q⟩ := pq
    have hw := S.dif_way (D := x.dN) (off := offAt x (n / x.bN)) (H := H) (by rw [S.Shp.onPath_len, S.Shp.onPath_len]) (S.Shp.onPath_way o hH hic) (S.Shp.onPath_way o hH hic) (fun a b ha hb => by
      rw [S.Shp.onPath_len, Nat.add_sub_cancel, S.Shp.onPath_top o hic] at ha hb
      cases ha; cases hb
      exact hr) hd
    exact ⟨p, q, rfl, hw.1, S.Shp.onPath_mem o hH hw.2.2.1, S.Shp.onPath_mem o hH hw.2.2.2, hw.2.1⟩
theorem stM_i {P : Program} {t g : Nat} {w : World} [AggTy P t 4] {y : SM} {cs : List Value} {K : World → Prop} (hv : Var w g cs) (hl : cs.length = 4) (hK : ∀ w', Fr (fun k => k = g) w w' → Var w' g y.cells → K w') :
    semU P (Instr.storeAt t (.pointer (some (at_ g 0))) (.agg #[.int .i64 y.alg, .int .i64 y.blk, .slice y.salt.1.a y.salt.1.len y.salt.1.cap, .slice y.data.1.a y.data.1.len y.data.1.cap])) K w :=
  stV_i (n := 4) (vs := y.cells) 0 hv rfl (by omega) (fun v hv => by simp only [SM.cells, List.mem_cons, List.not_mem_nil, or_false] at hv; rcases hv with rfl | rfl | rfl | rfl <;> rfl) fun w' h1 h2 => hK w' h1 (by simpa [List.drop_of_length_le (Nat.le_of_eq hl)] using h2)
set_option maxHeartbeats 800000 in
theorem GroveTurned_s {y : SM} {p1 p2 : Int} {K : Bool → World → Prop} {w : World} (hy : y.Ok w) (hp1 : -9223372036854775808 ≤ p1 ∧ p1 ≤ 9223372036854775807) (hp2 : -9223372036854775808 ≤ p2 ∧ p2 ≤ 9223372036854775807) (ht1 : Tabs w) (ht2 : L.Tabs w) (hK : ∀ w', Ext w w' → K true w') :
    callS Tryd.prog 6 #[.agg y.cells.toArray, .int .i64 p1, .int .i64 p2] [.one .bool] K w := by
  refine f6_ok (p0_0 := y.alg) (p0_1 := y.blk) (p0_2 := y.salt.1) (p0_3 := y.data.1) ?_
  unfold f6
  have ht : Tabs9 w := ⟨ht1, ht2⟩
  have hsl := Bts.len hy.salt
  have hdl := Bts.len hy.data
  refine box_i fun g w1 e1 hg v1 => ?_
  have v1 : Var w1 g y.cells := v1
  refine anchor9_s (ht.ext e1) fun w2 e2 => ?_
  refine cond_i (fun h => by cases h) (fun _ => ?_)
  have E2 := e1.trans e2
  have v2 := v1.ext e2
  refine ldM_i v2 ?_
  refine seedShape_s hsl hdl fun w3 e3 => ?_
  refine alloc_i fun gx w4 e4 hgx vx => ?_
  refine stSh_i (x := y.shp) vx rfl fun w5 f5 vx5 => ?_
  have e35 : Ext w3 w5 := Fr.own1 e4 f5 hgx
  have e25 := e3.trans e35
  have E5 := E2.trans e25
  have v5 := v2.ext e25
  refine ldM_i v5 ?_
  refine seedSmall_s hsl hdl fun w6 e6 => ?_
  have E6 := E5.trans e6
  have v6 := v5.ext e6
  refine join_i (fun c w' => (c = false → y.isSmall = true ∧ y.right = true ∧ 0 ≤ p1 ∧ p1 < y.data.2.length) ∧ w6 = w') ?_ fun J hJ => ?_
  rotate_left
  · refine cond_i (fun h => hJ _ _ ⟨(fun h => by cases h), rfl⟩) (fun h => ?_)
    refine ld1_i (l := .slc) (o := 3) y.data.1 v6 rfl ?_
    refine hJ _ _ ⟨fun h2 => ?_, rfl⟩
    have h2 : ¬ p1 ≥ (y.data.1.len : Int) := of_decide_eq_false h2
    simp only [Bool.or_eq_false_iff, Bool.not_eq_false', decide_eq_false_iff_not] at h
    exact ⟨h.1.1, h.1.2, by omega, by omega⟩
  rintro c w' ⟨hc, rfl⟩
  refine cond_i (fun _ => hK w6 E6) (fun h => ?_)
  simp only [Bool.or_eq_false_iff, decide_eq_false_iff_not] at h
  obtain ⟨⟨hcf, h1⟩, h2⟩ := h
  obtain ⟨hsm, hr, h3, h4⟩ := hc hcf
  obtain ⟨q1, q2⟩ := SM.right_of hr
  obtain ⟨q3, q4⟩ := SM.small_of hsm
  have o := S.Shp.ok_of q1
  have hb1 := o.b1
  have hb2 := o.b2
  have hbN : y.blk = (y.shp.bN : Int) := o.b
  obtain ⟨n, rfl⟩ : ∃ n : Nat, p1 = n := ⟨p1.toNat, by omega⟩
  have hn : n < y.data.2.length := by omega
  obtain ⟨m, rfl⟩ : ∃ m : Nat, p2 = m := ⟨p2.toNat, by omega⟩
  refine ldM_i v6 ?_
  refine alloc_i fun gt w7 e7 hgt v7 => ?_
  refine stM_i (y := y) v7 rfl fun w8 f8 v8 => ?_
  have e68 : Ext w6 w8 := Fr.own1 e7 f8 hgt
  have E8 := E6.trans e68
  have v18 := v6.ext e68
  refine buildSlice_i (sz := 1) #[] (by simp [Instr.fill]) (by simp) (by omega) fun v w9 e9 o9 hl9 => ?_
  have o9 : OwnB w9 w8.heap.size v [] := o9
  refine ld1_i (l := .slc) (o := 3) y.data.1 (v18.ext e9) rfl ?_
  refine appendB_i o9 (hy.data.ext (E8.trans e9)) (by simp; omega) e9.size fun r w10 f10 o10 hin10 => ?_
  rw [List.nil_append] at o10
  have e810 : Ext w8 w10 := Ext.own e9 f10 fun i hi => (o9.inB hi).1
  refine st1_i (v8.ext e810) (show 3 < 4 by omega) (rfl : (slV r).oneCell' = true) fun w11 f11 v11 => ?_
  have hgt8 := v8.lt
  have e6_11 : Ext w6 w11 := Fr.own1 (e68.trans e810) f11 hgt
  have v11 : Var w11 gt [.int .i64 y.alg, .int .i64 y.blk, slV y.salt.1, slV r] := v11
  have o11 := o10.fr f11 fun a ha (hk : a.block = gt) => by have h1 := (o10.inB ⟨a, ha, rfl⟩).1; rw [hk] at h1; omega
  refine ld1_i (l := .slc) (o := 3) r v11 rfl ?_
  have hrl : r.len = y.data.2.length := OwnB.len o11
  have hbv := (y.data.2[n]'hn).toNat_lt
  refine elem_i (l := .int .u8) (x := ((y.data.2[n]'hn).toNat : Int)) o11.rd (by omega) (by omega) (by rw [Int.toNat_natCast]; exact bytes_get hn) ?_
  have hm8 : (UInt8.ofNat m).toNat = m := by rw [UInt8.toNat_ofNat']; exact Nat.mod_eq_of_lt (by omega)
  have hx : xorI .u8 ((y.data.2[n]'hn).toNat : Int) (IntKind.wrap .u8 (m : Int)) = (((y.data.2[n]'hn) ^^^ UInt8.ofNat m).toNat : Int) := by
    rw [wrap_u8 (by omega) (by omega), xor_u8 hbv (by omega), UInt8.toNat_xor, hm8]
  refine put1_i ((y.data.2[n]'hn) ^^^ UInt8.ofNat m) o11 (by omega) (by omega) hx fun w12 f12 o12 => ?_
  rw [Int.toNat_natCast] at o12
  have hri : ∀ k, r.inB k → w8.heap.size ≤ k := fun k hk => (o10.inB hk).1
  have e6_12 : Ext w6 w12 := Ext.own e6_11 f12 fun k hk => by have := hri k hk; have := e68.size; omega
  have E12 := E6.trans e6_12
  have v12 := v6.ext e6_12
  have hgr : ¬ r.inB gt := fun hk => by have := hri _ hk; omega
  have vt12 := v11.fr f12 hgr
  have hm0 : UInt8.ofNat m ≠ 0 := fun h => by have := congrArg UInt8.toNat h; rw [hm8] at this; simp at this; omega
  have hD : (y.data.2.set n ((y.data.2[n]'hn) ^^^ UInt8.ofNat m)).length = y.data.2.length := List.length_set
  have hway := turned_way (H := y.H) o (fun u => S.dg_len (SM.dsz_of q1) _ u) rfl hn hm0
  generalize hz : y.data.2.set n ((y.data.2[n]'hn) ^^^ UInt8.ofNat m) = D' at o12 hD hway
  have hzs : SM.shp ⟨y.alg, y.blk, y.salt, (r, D')⟩ = y.shp := by unfold SM.shp shp9; rw [hD]
  have hzr : SM.right ⟨y.alg, y.blk, y.salt, (r, D')⟩ = true := by unfold SM.right; rw [hzs]; exact hr
  have hask := SM.ask_of hr
  have hask2 : askErr y.alg y.salt.2 (shp9 y.alg y.blk D') = 0 := by have := SM.ask_of hzr; exact this
  have hy12 := hy.ext E12
  refine ld1_i (l := .int .i64) (o := 0) y.alg v12 rfl (ld1_i (l := .slc) (o := 2) y.salt.1 v12 rfl (ld1_i (l := .int .i64) (o := 1) y.blk v12 rfl (ld1_i (l := .slc) (o := 3) y.data.1 v12 rfl ?_)))
  refine root_s (ht.ext E12) hy12.salt hy12.data (by omega) (fun h => absurd hask h) fun _ r1 w13 e13 or1 => ?_
  have E13 := E12.trans e13
  have vt13 := vt12.ext e13
  refine ld1_i (l := .int .i64) (o := 0) y.alg vt13 rfl (ld1_i (l := .slc) (o := 2) y.salt.1 vt13 rfl (ld1_i (l := .int .i64) (o := 1) y.blk vt13 rfl (ld1_i (l := .slc) (o := 3) r vt13 rfl ?_)))
  refine root_s (ht.ext E13) (hy.salt.ext E13) (Own.ext o12 e13).rd (by omega) (fun h => absurd hask2 h) fun _ r2 w14 e14 or2 => ?_
  have E14 := E13.trans e14
  have e1214 := e13.trans e14
  have v14 := v12.ext e1214
  have vt14 := vt12.ext e1214
  refine cond_i (fun h => by simp at h) (fun _ => ?_)
  have hdr := Ext.drew w14
  refine ⟨fun x => Ext w14 x, hdr, ?_⟩
  have or1' := Own.ext or1 e14
  refine b2sQ_i (fun x hx => (Own.ext or1' hx).rd) (b2sQ_i (fun x hx => (Own.ext or2 hx).rd) ?_)
  rw [str_toList, str_toList]
  refine cond_i (fun _ => hK _ (E14.trans hdr)) (fun heq => ?_)
  have heq : (shp9 y.alg y.blk y.data.2).root (S.dg y.alg y.salt.2) y.data.2 = (shp9 y.alg y.blk D').root (S.dg y.alg y.salt.2) D' := by simpa using heq
  have hs' : shp9 y.alg y.blk D' = y.shp := hzs
  rw [hs'] at heq
  obtain ⟨p, q, hpq, hne, hlp, hlq, hHpq⟩ := hway heq
  refine ldMQ_i (fun x hx => v14.ext hx) (ldMQ_i (y := ⟨y.alg, y.blk, y.salt, (r, D')⟩) (fun x hx => vt14.ext hx) (ld1Q_i (l := .int .i64) (o := 1) y.blk (fun x hx => v14.ext hx) rfl ?_))
  refine quoQ_i (by omega) ?_
  have hq : IntKind.wrap .i64 ((n : Int).tdiv y.blk) = ((n / y.shp.bN : Nat) : Int) := by
    rw [hbN, S.tdiv_n]; exact wrap_nat (by have := Nat.div_le_self n y.shp.bN; omega)
  rw [hq]
  have hic : n / y.shp.bN < y.shp.c 0 := by
    show _ < S.up y.shp.sN y.shp.bN
    have hsN : y.shp.sN = y.data.2.length := rfl
    rw [S.up_iff (by omega) (by omega)]
    have := Nat.div_mul_le_self n y.shp.bN
    omega
  have Ed := E14.trans hdr
  refine pair_s (y := y) (z := ⟨y.alg, y.blk, y.salt, (r, D')⟩) (hy.ext Ed) ⟨hy.alg, hy.blk, hy.salt.ext Ed, (Own.ext o12 (e1214.trans hdr)).rd⟩ rfl rfl hzs hr hzr (by omega) (by show D'.length ≤ _; omega) hic hpq hne (by omega) (by omega) hHpq fun w15 e15 => hK w15 (Ed.trans e15)
end Go.Proofs.YtbmcbjmpogbmeaaDoor
