/- Layer 9 (grove): the law GroveSame. -/
import Derived.Test.YtbmcbjmpogbmeaaDoorLaw09g
import Derived.Test.YtbmcbjmpogbmeaaDoorLaw09f
import Derived.Test.YtbmcbjmpogbmeaaDoorLaw09c
set_option linter.unusedSimpArgs false
set_option linter.unusedVariables false
namespace Go.Proofs.YtbmcbjmpogbmeaaDoor
open Go Go.Eng
theorem climbErr_zero {a i : Int} {salt root : List UInt8} {x : S.Shp} {bl : List (List UInt8)} (h : climbErr a salt x i bl root = 0) :
    ∃ n : Nat, i = n ∧ n < x.c 0 ∧ bl.length = x.h + 1 ∧ (∀ b ∈ bl, (b.length : Int) = x.b) ∧ (∀ k, k < x.h → chk a salt (bl.getD (k + 1) []) (offAt x n k : Int) (bl.getD k []) = true) ∧ S.dg a salt (bl.getD x.h []) = root := by
  unfold climbErr at h
  split at h
  · rename_i h0; exact absurd h h0
  · split at h
    · cases h
    · rename_i h1
      split at h
      · cases h
      · rename_i h2
        unfold wayErr at h
        split at h
        · cases h
        · rename_i h3
          split at h
          · rename_i h4
            refine ⟨i.toNat, by omega, by omega, ?_, fun b hb => ?_, fun k hk => ?_, by simpa using h4⟩
            · exact Classical.byContradiction fun hn => h2 (.inl hn)
            · apply Classical.byContradiction; intro hn
              exact h2 (.inr (List.any_eq_true.2 ⟨b, hb, by simpa using hn⟩))
            · apply Classical.byContradiction; intro hn
              exact h3 (List.any_eq_true.2 ⟨k, List.mem_range.2 hk, by unfold badAt; simpa using hn⟩)
          · cases h
theorem chk_cut {a i : Int} {salt above below : List UInt8} (h : chk a salt above i below = true) : (above.drop i.toNat).take (S.dsz a).toNat = S.dg a salt below := by
  rw [chk_want] at h
  split at h
  · simpa using h
  · cases h
/-- Another list that climbs to the same root, and begins with another block. -/
theorem same_way {a : Int} {salt data root : List UInt8} {x : S.Shp} {i : Nat} {bl : List (List UInt8)} (o : x.Ok) (ha : S.dsz a = x.d) (hi : i < x.c 0) (hr : root = x.root (S.dg a salt) data) (hc : climbErr a salt x i bl root = 0) (hne : bl[0]? ≠ (x.onPath (S.dg a salt) data i)[0]?) :
    bl.length = x.h + 1 ∧ (∀ b ∈ bl, b.length = x.bN) ∧ ∃ p q, S.difR (x.onPath (S.dg a salt) data i).reverse bl.reverse = some (p, q) ∧ p ≠ q ∧ p.length = x.bN ∧ q.length = x.bN ∧ S.dg a salt p = S.dg a salt q := by
  obtain ⟨n, hn, h1, h2, h3, h4, h5⟩ := climbErr_zero hc
  obtain rfl : i = n := by omega
  have hdd := o.dd
  have hz : S.dsz a ≠ 0 := by rw [ha, o.d]; omega
  have hH : ∀ y, (S.dg a salt y).length = x.dN := fun y => by rw [S.dg_len hz salt y, ha]; rfl
  have hlen : ∀ b ∈ bl, b.length = x.bN := fun b hb => by have := h3 b hb; have := o.b; omega
  have hD : (S.dsz a).toNat = x.dN := by rw [ha]; rfl
  have hB : ∀ k u v, bl[k]? = some u → bl[k + 1]? = some v → (v.drop (offAt x i k)).take x.dN = S.dg a salt u := fun k u v hu hv => by
    have hk : k + 1 < bl.length := (List.getElem?_eq_some_iff.1 hv).1
    have := chk_cut (h4 k (by omega))
    rw [List.getD_eq_getElem?_getD, List.getD_eq_getElem?_getD, hu, hv, Int.toNat_natCast, hD] at this
    exact this
  refine ⟨h2, hlen, ?_⟩
  cases hd : S.difR (x.onPath (S.dg a salt) data i).reverse bl.reverse with
  | none =>
    have he := List.reverse_inj.1 (S.difR_none (by simp [S.Shp.onPath_len, h2]) hd)
    exact absurd (by rw [he]) hne
  | some pq =>
    obtain ⟨p, q⟩ := pq
    have hw := S.dif_way (D := x.dN) (off := offAt x i) (H := S.dg a salt) (by rw [S.Shp.onPath_len, h2]) (S.Shp.onPath_way o hH hi) hB (fun u v hu hv => by
      rw [S.Shp.onPath_len, Nat.add_sub_cancel] at hu hv
      rw [S.Shp.onPath_top o hi] at hu
      cases hu
      rw [List.getD_eq_getElem?_getD, hv] at h5
      rw [show S.dg a salt v = root from h5, hr]; rfl) hd
    exact ⟨p, q, rfl, hw.1, S.Shp.onPath_mem o hH hw.2.2.1, hlen q hw.2.2.2, hw.2.1⟩
theorem GroveSame_t {y : SM} {i : Nat} {b1 p2 : Sl} {xs ys : List (Sl × List UInt8)} {root : List UInt8} {z : Bool} {K : Bool → World → Prop} {w : World} {g : Nat} (hy : y.Ok w) (v : Var w g y.cells) (hr : y.right = true) (hx : Parts w b1 xs) (hxs : xs.map (·.2) = y.shp.onPath y.H y.data.2 i) (hp : Parts w p2 ys) (hsm : y.salt.2.length ≤ 100)
    (hyl : ys.length ≤ 30) (hyb : ∀ u ∈ ys, u.2.length ≤ 5000) (hi : i < y.shp.c 0) (hroot : root = y.shp.root y.H y.data.2) (hz : z = false → climbErr y.alg y.salt.2 y.shp i (ys.map (·.2)) root = 0 ∧ (ys.map (·.2))[0]? ≠ (xs.map (·.2))[0]?) (hK : ∀ w', Ext w w' → K true w') : f10_t1 z K b1 p2 (at_ g 0) w := by
  unfold f10_t1
  refine cond_i (fun _ => hK w (Fr.refl _ _)) (fun h => ?_)
  obtain ⟨hc, hne⟩ := hz h
  obtain ⟨q1, q2⟩ := SM.right_of hr
  have o := S.Shp.ok_of q1
  have hb2 := o.b2
  have hh := S.Shp.h_le o
  have hdz := SM.dsz_of q1
  have hHl : ∀ u, (y.H u).length = y.shp.dN := fun u => S.dg_len hdz _ u
  rw [hxs] at hne
  obtain ⟨hl, hlen, p, q, hdif, hpq, hlp, hlq, hH⟩ := same_way o rfl hi hroot hc hne
  have hxl : xs.length = y.shp.h + 1 := by have := congrArg List.length hxs; rwa [List.length_map, S.Shp.onPath_len] at this
  have hbx : ∀ u ∈ xs, u.2.length ≤ 68719476736 := fun u hu => by
    have := S.Shp.onPath_mem o hHl (show u.2 ∈ y.shp.onPath y.H y.data.2 i by rw [← hxs]; exact List.mem_map_of_mem hu)
    omega
  have hrx : rv xs = (y.shp.onPath y.H y.data.2 i).reverse := by unfold rv; rw [hxs]
  have hdif' : S.difR (rv xs) (rv ys) = some (p, q) := by rw [hrx]; exact hdif
  refine differ_s hx hp (by omega) (by omega) hbx (fun u hu => by have := hyb u hu; omega) (fun h => by rw [hdif'] at h; cases h) fun p' q' hpq' r1 r2 w8 e8 o1 o2 => ?_
  rw [hdif'] at hpq'
  obtain ⟨rfl, rfl⟩ : p = p' ∧ q = q' := by cases hpq'; exact ⟨rfl, rfl⟩
  have v8 := v.ext e8
  have hd8 := Ext.drew w8
  refine ⟨fun x => Ext w8 x, hd8, ?_⟩
  refine cond_i (fun _ => ?_) (fun h => by cases h)
  refine b2sQ_i (fun x hx => (Own.ext o1 hx).rd) (b2sQ_i (fun x hx => (Own.ext o2 hx).rd) ?_)
  have hl1 := OwnB.len o1
  have hl2 := OwnB.len o2
  refine cond_i (fun _ => ?_) (fun h => by rw [str_toList, str_toList] at h; simp [hpq] at h)
  refine cond_i (fun _ => ?_) (fun h => by rw [hl1, hl2, hlp, hlq] at h; simp at h)
  refine ld1Q_i (l := .int .i64) (o := 0) y.alg (fun x hx => v8.ext hx) rfl (ld1Q_i (l := .slc) (o := 2) y.salt.1 (fun x hx => v8.ext hx) rfl (ld1Q_i (l := .int .i64) (o := 0) y.alg (fun x hx => v8.ext hx) rfl (ld1Q_i (l := .slc) (o := 2) y.salt.1 (fun x hx => v8.ext hx) rfl ?_)))
  have hyd := hy.ext (e8.trans hd8)
  refine rdig_s hyd.salt (Own.ext o1 hd8).rd hdz (by omega) fun r3 w9 e9 o3 => ?_
  have e89 := hd8.trans e9
  refine more2_i (fun x => Ext w9 x) (Fr.refl _ _) (fun x hx => e89.trans hx) ?_
  refine b2sQ_i (fun x hx => (Own.ext o3 hx).rd) ?_
  refine rdig_s (hyd.salt.ext e9) (Own.ext o2 e89).rd hdz (by omega) fun r4 w10 e10 o4 => ?_
  refine more2_i (fun x => Ext w10 x) (Fr.refl _ _) (fun x hx => e10.trans hx) ?_
  refine b2sQ_i (fun x hx => (Own.ext o4 hx).rd) ?_
  have := hK w10 ((e8.trans e89).trans e10)
  rw [str_toList, str_toList, hH, beq_self_eq_true]
  exact this
set_option maxHeartbeats 800000 in
theorem GroveSame_s {y : SM} {p1 : Int} {p2 : Sl} {K : Bool → World → Prop} {w : World} {ys : List (Sl × List UInt8)} (hy : y.Ok w) (hp1 : -9223372036854775808 ≤ p1 ∧ p1 ≤ 9223372036854775807) (hp : Parts w p2 ys) (ht1 : Tabs w) (ht2 : L.Tabs w) (hK : ∀ w', Ext w w' → K true w') :
    callS Tryd.prog 10 #[.agg y.cells.toArray, .int .i64 p1, .slice p2.a p2.len p2.cap] [.one .bool] K w := by
  refine f10_ok (p0_0 := y.alg) (p0_1 := y.blk) (p0_2 := y.salt.1) (p0_3 := y.data.1) ?_
  unfold f10
  have ht : Tabs9 w := ⟨ht1, ht2⟩
  have hsl := Bts.len hy.salt
  have hdl := Bts.len hy.data
  have hpl := hp.len
  refine box_i fun g w1 e1 hg v1 => ?_
  have v1 : Var w1 g y.cells := v1
  refine anchor9_s (ht.ext e1) fun w2 e2 => ?_
  refine cond_i (fun h => by cases h) (fun _ => ?_)
  have E2 := e1.trans e2
  have v2 := v1.ext e2
  refine ldM_i v2 ?_
  refine seedShape_s hsl hdl fun w3 e3 => ?_
  refine alloc_i fun gx w4 e4 hgx vx => ?_
  refine stSh_i (x := y.shp) vx rfl fun w5 f5 vx5 => ?_
  have e35 : Ext w3 w5 := Fr.own1 e4 f5 hgx
  have e25 := e3.trans e35
  have E5 := E2.trans e25
  have v5 := v2.ext e25
  refine ldM_i v5 ?_
  refine seedSmall_s hsl hdl fun w6 e6 => ?_
  have E6 := E5.trans e6
  have v6 := v5.ext e6
  have vx6 := vx5.ext e6
  refine join_i (fun c w' => (c = false → y.isSmall = true ∧ y.right = true ∧ 0 ≤ p1 ∧ p1 < y.shp.c 0) ∧ Ext w6 w') ?_ fun J hJ => ?_
  rotate_left
  · refine cond_i (fun h => hJ _ _ ⟨(fun h => by cases h), Fr.refl _ _⟩) (fun h => ?_)
    simp only [Bool.or_eq_false_iff, Bool.not_eq_false', decide_eq_false_iff_not] at h
    obtain ⟨⟨h1, h2⟩, h3⟩ := h
    have o := S.Shp.ok_of (SM.right_of h2).1
    refine ldSh_i vx6 ?_
    refine rCounts_s o fun cv w7 e7 oc => ?_
    have hcl : cv.len = y.shp.h + 1 := by have := oc.len; rw [List.length_map, S.Shp.cs_len, Nat.mul_one] at this; omega
    refine elem_i (l := .int .i64) (x := (y.shp.c 0 : Int)) (i := 0) oc.rd (by omega) (by omega) (by rw [show (0 : Int).toNat = 0 from rfl, List.getElem?_map, S.Shp.cs_get (Nat.zero_le _)]; rfl) ?_
    refine hJ _ _ ⟨fun h4 => ⟨h1, h2, by omega, ?_⟩, e7⟩
    have h4 : ¬ p1 ≥ (y.shp.c 0 : Int) := of_decide_eq_false h4
    omega
  rintro c w7 ⟨hc, e7⟩
  have E7 := E6.trans e7
  refine cond_i (fun _ => hK w7 E7) (fun h => ?_)
  simp only [Bool.or_eq_false_iff, decide_eq_false_iff_not] at h
  obtain ⟨hcf, h30⟩ := h
  obtain ⟨hsm, hr, h3, h4⟩ := hc hcf
  obtain ⟨q1, q2⟩ := SM.right_of hr
  obtain ⟨q3, q4⟩ := SM.small_of hsm
  have o := S.Shp.ok_of q1
  obtain ⟨i, rfl⟩ : ∃ i : Nat, p1 = i := ⟨p1.toNat, by omega⟩
  have hi : i < y.shp.c 0 := by omega
  have v7 := v6.ext e7
  have vx7 := vx6.ext e7
  refine loop_i (fun (x : Int) w' => ∃ k : Nat, x = k ∧ k ≤ ys.length ∧ Ext w7 w' ∧ ∀ u ∈ ys.take k, u.2.length ≤ 5000) (fun x _ => ys.length - x.toNat) ⟨0, rfl, by omega, Fr.refl _ _, by simp⟩ ?_
  rintro _ w8 again ⟨k, rfl, hk, e8, hys⟩ hag
  have E8 := E7.trans e8
  have hp8 := hp.ext E8
  refine cond_i (fun hlt => ?_) (fun hge => ?_)
  · have hlt : k < ys.length := by have : (k : Int) < (p2.len : Int) := of_decide_eq_true hlt
                                   omega
    refine elem_i (l := .slc) (x := (ys[k]'hlt).1) hp8.rd (by omega) (by omega) (by rw [Int.toNat_natCast]; exact part_get hp8 hlt) ?_
    have hul := Bts.len (hp8.each _ (List.getElem_mem hlt))
    have hts : ys.take (k + 1) = ys.take k ++ [ys[k]'hlt] := List.take_succ_eq_append_getElem hlt
    generalize ys[k]'hlt = u at hul hts ⊢
    refine cond_i (fun _ => hK w8 E8) (fun h => ?_)
    have h : ¬ (u.1.len : Int) > 5000 := of_decide_eq_false h
    have hkk : IntKind.wrap .i64 ((k : Int) + 1) = ((k + 1 : Nat) : Int) := wrap_nat (n := k + 1) (by omega)
    rw [hkk]
    refine hag _ w8 ⟨k + 1, rfl, by omega, e8, fun z hz => ?_⟩ (by omega)
    rw [hts] at hz
    rcases List.mem_append.1 hz with hz | hz
    · exact hys z hz
    · rw [List.mem_singleton.1 hz]; omega
  · have hk : k = ys.length := by have : ¬ (k : Int) < (p2.len : Int) := of_decide_eq_false hge
                                  omega
    subst hk
    rw [List.take_length] at hys
    have v8 := v7.ext e8
    have vx8 := vx7.ext e8
    have hy8 := hy.ext E8
    have hask := SM.ask_of hr
    refine ld1_i (l := .int .i64) (o := 0) y.alg v8 rfl (ld1_i (l := .slc) (o := 2) y.salt.1 v8 rfl (ld1_i (l := .int .i64) (o := 1) y.blk v8 rfl (ld1_i (l := .slc) (o := 3) y.data.1 v8 rfl ?_)))
    refine make_s (ht.ext E8) hy8.salt hy8.data (by omega) (fun h => absurd hask h) fun _ t r w9 e9 ot or => ?_
    have E9 := E8.trans e9
    have v9 := v8.ext e9
    have vx9 := vx8.ext e9
    refine ldM_i v9 (ldSh_i vx9 ?_)
    refine blocks_s (hy.ext E9) rfl hr (by omega) hi fun b1 xs w10 e10 ox hxs => ?_
    have E10 := E9.trans e10
    have v10 := v9.ext e10
    have vx10 := vx9.ext e10
    refine cond_i (fun h => by simp at h) (fun _ => ?_)
    have hd := Ext.drew w10
    refine ⟨fun x => Ext w10 x, hd, ?_⟩
    refine ld1Q_i (l := .int .i64) (o := 0) y.alg (fun x hx => v10.ext hx) rfl (ld1Q_i (l := .slc) (o := 2) y.salt.1 (fun x hx => v10.ext hx) rfl (ldShQ_i (fun x hx => vx10.ext hx) ?_))
    have Ed := E10.trans hd
    have orD := Own.ext or (e10.trans hd)
    refine climb_s (ht.ext Ed) (hy.salt.ext Ed) (hp.ext Ed) orD.rd hp1 (by omega) (fun u hu => by have := hys u hu; omega) fun w11 e11 => ?_
    have e1011 := hd.trans e11
    have E11 := E10.trans e1011
    refine more2_i (fun x => Ext w11 x) (Fr.refl _ _) (fun x hx => e1011.trans hx) ?_
    have tail : ∀ z : Bool, (z = false → climbErr y.alg y.salt.2 y.shp i (ys.map (·.2)) ((shp9 y.alg y.blk y.data.2).root (S.dg y.alg y.salt.2) y.data.2) = 0 ∧ (ys.map (·.2))[0]? ≠ (xs.map (·.2))[0]?) → f10_t1 z K b1 p2 (at_ g 0) w11 := fun z hz =>
      GroveSame_t (hy.ext E11) (v10.ext e1011) hr (ox.ext e1011).parts hxs (hp.ext E11) q3 (by omega) hys hi rfl hz fun w' e => hK w' (E11.trans e)
    refine cond_i (fun _ => tail true (fun h => by cases h)) (fun h => ?_)
    have hc0 : climbErr y.alg y.salt.2 y.shp i (ys.map (·.2)) ((shp9 y.alg y.blk y.data.2).root (S.dg y.alg y.salt.2) y.data.2) = 0 := by simpa using h
    obtain ⟨n, hn, h1, h2, _⟩ := climbErr_zero hc0
    rw [List.length_map] at h2
    have hxl : xs.length = y.shp.h + 1 := by have := congrArg List.length hxs; rwa [List.length_map, S.Shp.onPath_len] at this
    have hp11 := hp.ext E11
    have ox11 := (ox.ext e1011).parts
    have h0y : 0 < ys.length := by omega
    have h0x : 0 < xs.length := by omega
    obtain ⟨ay, hay⟩ := hp11.rd.some (by omega)
    obtain ⟨ax, hax⟩ := ox11.rd.some (by rw [ox11.len]; omega)
    have hxlen := ox11.len
    refine elemQ_i (l := .slc) (x := (ys[0]'h0y).1) (i := 0) hay (fun y hy => (hp11.ext hy).rd) (by omega) (by omega) (part_get hp11 h0y) ?_
    have hm0 := List.getElem_mem h0y
    have hmx := List.getElem_mem h0x
    refine b2sQ_i (fun y hy => (hp11.ext hy).each _ hm0) ?_
    refine elemQ_i (l := .slc) (x := (xs[0]'h0x).1) (i := 0) hax (fun y hy => (ox11.ext hy).rd) (by omega) (by omega) (part_get ox11 h0x) ?_
    refine b2sQ_i (fun y hy => (ox11.ext hy).each _ hmx) ?_
    refine tail _ fun hz => ⟨hc0, ?_⟩
    rw [str_toList, str_toList] at hz
    simp only [List.getElem?_map, List.getElem?_eq_getElem h0y, List.getElem?_eq_getElem h0x, Option.map_some]
    intro he
    have := Option.some.inj he
    rw [this] at hz
    simp at hz
end Go.Proofs.YtbmcbjmpogbmeaaDoor
