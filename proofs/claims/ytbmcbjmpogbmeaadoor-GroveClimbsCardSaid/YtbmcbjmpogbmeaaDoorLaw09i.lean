/- Layer 9 (grove): the law GroveClimbs. -/
import Derived.Test.YtbmcbjmpogbmeaaDoorLaw09h
set_option linter.unusedSimpArgs false
set_option linter.unusedVariables false
namespace Go.Proofs.YtbmcbjmpogbmeaaDoor
open Go Go.Eng
theorem climbErr_way {a : Int} {salt root : List UInt8} {x : S.Shp} {i : Nat} {bl : List (List UInt8)} (o : x.Ok) (h : askErr a salt x = 0) (hi : i < x.c 0) (hl : bl.length = x.h + 1) (hb : ∀ b ∈ bl, b.length = x.bN) : climbErr a salt x i bl root = wayErr a salt x i bl root := by
  unfold climbErr
  rw [h, if_neg (by decide), if_neg (by omega), if_neg, Int.toNat_natCast]
  rintro (h | h)
  · exact h hl
  · obtain ⟨b, hm, hq⟩ := List.any_eq_true.1 h
    have := hb b hm
    have := o.b
    have : (b.length : Int) = x.b := by omega
    rw [this] at hq
    simp at hq
/-- Blocks of the right length: a digest is found where it stands. -/
theorem badAt_eq {a : Int} {salt : List UInt8} {x : S.Shp} {i k : Nat} {bl : List (List UInt8)} {u v : List UInt8} (o : x.Ok) (h : askErr a salt x = 0) (hv : v.length = x.bN) (h0 : bl[k]? = some u) (h1 : bl[k + 1]? = some v) : badAt a salt x i bl k = !((v.drop (offAt x i k)).take x.dN == S.dg a salt u) := by
  obtain ⟨q1, q2, q3, q4⟩ := askErr_ok h
  have hd := o.d
  have ha1 := o.a1
  have hm := Nat.mod_lt (i / x.aN ^ k) (show x.aN > 0 by omega)
  have hle := Nat.mul_le_mul_right x.dN (show i / x.aN ^ k % x.aN + 1 ≤ x.aN by omega)
  rw [Nat.succ_mul, ← o.ba] at hle
  have hz := dsz_cases a
  unfold badAt
  rw [List.getD_eq_getElem?_getD, List.getD_eq_getElem?_getD, h0, h1, Option.getD_some, Option.getD_some, chk_want, if_pos (by unfold offAt; omega), Int.toNat_natCast, ← q4]
  rfl
theorem offAt_le {x : S.Shp} (o : x.Ok) (i k : Nat) : offAt x i k + x.dN ≤ x.bN := by
  have ha1 := o.a1
  have hm := Nat.mod_lt (i / x.aN ^ k) (show x.aN > 0 by omega)
  have hle := Nat.mul_le_mul_right x.dN (show i / x.aN ^ k % x.aN + 1 ≤ x.aN by omega)
  rw [Nat.succ_mul, ← o.ba] at hle
  exact hle
theorem wayErr_path {a : Int} {salt data : List UInt8} {x : S.Shp} {i : Nat} (o : x.Ok) (h : askErr a salt x = 0) (hi : i < x.c 0) : wayErr a salt x i (x.onPath (S.dg a salt) data i) (x.root (S.dg a salt) data) = 0 := by
  obtain ⟨q1, q2, q3, q4⟩ := askErr_ok h
  have hH : ∀ y, (S.dg a salt y).length = x.dN := fun y => by rw [S.dg_len q1 salt y, ← q4]; rfl
  have hno : (List.range x.h).any (badAt a salt x i (x.onPath (S.dg a salt) data i)) = false := by
    rw [List.any_eq_false]
    intro k hk
    have hk := List.mem_range.1 hk
    have h0 := S.Shp.onPath_get (x := x) (H := S.dg a salt) (data := data) (i := i) (k := k) (by omega)
    have h1 := S.Shp.onPath_get (x := x) (H := S.dg a salt) (data := data) (i := i) (k := k + 1) (by omega)
    rw [badAt_eq o h (S.Shp.blk_len o hH _ _) h0 h1, S.Shp.onPath_way o hH hi k _ _ h0 h1]
    simp
  unfold wayErr
  rw [if_neg (by rw [hno]; decide), List.getD_eq_getElem?_getD, S.Shp.onPath_top o hi, Option.getD_some, if_pos]
  exact beq_self_eq_true _
theorem setP {w w' : World} {B : Nat} {s : Sl} {xs : List (Sl × List UInt8)} {k : Nat} {z : Sl × List UInt8} (o : OwnP w B s xs) (f : Fr s.inB w w') (oc : Own w' B s 1 ((xs.map fun x => slV x.1).set k (slV z.1))) (hz : Bts w z.1 z.2) (hza : ∀ q, z.1.inB q → ¬ s.inB q) : Parts w' s (xs.set k z) := by
  refine ⟨?_, fun u hu => ?_⟩
  · rw [List.map_set]; exact oc.rd
  · rcases List.mem_or_eq_of_mem_set hu with hu | rfl
    · exact (o.each u hu).fr f fun a ha hk => (o.apart u hu _ ⟨a, ha, rfl⟩).2 hk
    · exact hz.fr f fun a ha hk => hza _ ⟨a, ha, rfl⟩ hk
set_option maxRecDepth 10000 in
set_option maxHeartbeats 1600000 in
theorem GroveClimbs_s {y : SM} {p1 p2 p3 : Int} {K : Bool → World → Prop} {w : World} (hy : y.Ok w) (hp1 : -9223372036854775808 ≤ p1 ∧ p1 ≤ 9223372036854775807) (hp2 : -9223372036854775808 ≤ p2 ∧ p2 ≤ 9223372036854775807) (hp3 : -9223372036854775808 ≤ p3 ∧ p3 ≤ 9223372036854775807) (ht1 : Tabs w) (ht2 : L.Tabs w) (hK : ∀ w', Ext w w' → K true w') :
    callS Tryd.prog 8 #[.agg y.cells.toArray, .int .i64 p1, .int .i64 p2, .int .i64 p3] [.one .bool] K w := by
  refine f8_ok (p0_0 := y.alg) (p0_1 := y.blk) (p0_2 := y.salt.1) (p0_3 := y.data.1) ?_
  unfold f8
  have ht : Tabs9 w := ⟨ht1, ht2⟩
  have hsl := Bts.len hy.salt
  have hdl := Bts.len hy.data
  refine box_i fun g w1 e1 hg v1 => ?_
  have v1 : Var w1 g y.cells := v1
  refine anchor9_s (ht.ext e1) fun w2 e2 => ?_
  refine cond_i (fun h => by cases h) (fun _ => ?_)
  have E2 := e1.trans e2
  have v2 := v1.ext e2
  refine ldM_i v2 ?_
  refine seedShape_s hsl hdl fun w3 e3 => ?_
  refine alloc_i fun gx w4 e4 hgx vx => ?_
  refine stSh_i (x := y.shp) vx rfl fun w5 f5 vx5 => ?_
  have e35 : Ext w3 w5 := Fr.own1 e4 f5 hgx
  have e25 := e3.trans e35
  have E5 := E2.trans e25
  have v5 := v2.ext e25
  refine ldM_i v5 ?_
  refine seedSmall_s hsl hdl fun w6 e6 => ?_
  have E6 := E5.trans e6
  have v6 := v5.ext e6
  have vx6 := vx5.ext e6
  refine join_i (fun c w' => (c = false → y.isSmall = true ∧ y.right = true ∧ 0 ≤ p1 ∧ p1 < y.shp.c 0) ∧ Ext w6 w') ?_ fun J hJ => ?_
  rotate_left
  · refine cond_i (fun h => hJ _ _ ⟨(fun h => by cases h), Fr.refl _ _⟩) (fun h => ?_)
    simp only [Bool.or_eq_false_iff, Bool.not_eq_false', decide_eq_false_iff_not] at h
    obtain ⟨⟨h1, h2⟩, h3⟩ := h
    have o := S.Shp.ok_of (SM.right_of h2).1
    refine ldSh_i vx6 ?_
    refine rCounts_s o fun cv w7 e7 oc => ?_
    have hcl : cv.len = y.shp.h + 1 := by have := oc.len; rw [List.length_map, S.Shp.cs_len, Nat.mul_one] at this; omega
    refine elem_i (l := .int .i64) (x := (y.shp.c 0 : Int)) (i := 0) oc.rd (by omega) (by omega) (by rw [show (0 : Int).toNat = 0 from rfl, List.getElem?_map, S.Shp.cs_get (Nat.zero_le _)]; rfl) ?_
    refine hJ _ _ ⟨fun h4 => ⟨h1, h2, by omega, ?_⟩, e7⟩
    have h4 : ¬ p1 ≥ (y.shp.c 0 : Int) := of_decide_eq_false h4
    omega
  rintro c w7 ⟨hc, e7⟩
  have E7 := E6.trans e7
  refine cond_i (fun _ => hK w7 E7) (fun h => ?_)
  simp only [Bool.or_eq_false_iff, decide_eq_false_iff_not] at h
  obtain ⟨⟨hcf, h2⟩, h3'⟩ := h
  obtain ⟨hsm, hr, h3, h4⟩ := hc hcf
  obtain ⟨q1, q2⟩ := SM.right_of hr
  obtain ⟨q3, q4⟩ := SM.small_of hsm
  have o := S.Shp.ok_of q1
  have hb1 := o.b1
  have hb2 := o.b2
  have hh := S.Shp.h_le o
  have hdz := SM.dsz_of q1
  have hHl : ∀ u, (y.H u).length = y.shp.dN := fun u => S.dg_len hdz _ u
  obtain ⟨i, rfl⟩ : ∃ i : Nat, p1 = i := ⟨p1.toNat, by omega⟩
  obtain ⟨wh, rfl⟩ : ∃ i : Nat, p2 = i := ⟨p2.toNat, by omega⟩
  obtain ⟨pt, rfl⟩ : ∃ i : Nat, p3 = i := ⟨p3.toNat, by omega⟩
  have hi : i < y.shp.c 0 := by omega
  have v7 := v6.ext e7
  have vx7 := vx6.ext e7
  have hy7 := hy.ext E7
  have hask : askErr y.alg y.salt.2 y.shp = 0 := SM.ask_of hr
  refine ld1_i (l := .int .i64) (o := 0) y.alg v7 rfl (ld1_i (l := .slc) (o := 2) y.salt.1 v7 rfl (ld1_i (l := .int .i64) (o := 1) y.blk v7 rfl (ld1_i (l := .slc) (o := 3) y.data.1 v7 rfl ?_)))
  refine make_s (ht.ext E7) hy7.salt hy7.data (by omega) (fun h => absurd hask h) fun _ t r w8 e8 ot or => ?_
  have E8 := E7.trans e8
  have v8 := v7.ext e8
  have vx8 := vx7.ext e8
  refine ldM_i v8 (ldSh_i vx8 ?_)
  refine blocks_s (hy.ext E8) rfl hr (by omega) hi fun b1 xs w9 e9 ox hxs => ?_
  have E9 := E8.trans e9
  have v9 := v8.ext e9
  have vx9 := vx8.ext e9
  have or9 := Own.ext or e9
  have hxl : xs.length = y.shp.h + 1 := by have := congrArg List.length hxs; rwa [List.length_map, S.Shp.onPath_len] at this
  have hbx : ∀ u ∈ xs, u.2.length = y.shp.bN := fun u hu => S.Shp.onPath_mem o hHl (show u.2 ∈ y.shp.onPath y.H y.data.2 i by rw [← hxs]; exact List.mem_map_of_mem hu)
  have hbl : b1.len = y.shp.h + 1 := by rw [ox.parts.len, hxl]
  have hrt : (shp9 y.alg y.blk y.data.2).root (S.dg y.alg y.salt.2) y.data.2 = y.shp.root y.H y.data.2 := rfl
  rw [hrt] at or9
  refine join_i (fun c w' => c = false ∧ Ext w9 w') ?_ fun J hJ => ?_
  rotate_left
  · refine cond_i (fun h => by simp at h) (fun _ => ?_)
    refine ld1_i (l := .int .i64) (o := 0) y.alg v9 rfl (ld1_i (l := .slc) (o := 2) y.salt.1 v9 rfl (ldSh_i vx9 ?_))
    refine climb_s (ht.ext E9) (hy.salt.ext E9) ox.parts or9.rd hp1 (by omega) (fun u hu => by have := hbx u hu; omega) fun w10 e10 => ?_
    have h0 : climbErr y.alg y.salt.2 y.shp i (xs.map (·.2)) (y.shp.root y.H y.data.2) = 0 := by
      rw [climbErr_way o hask hi (by rw [List.length_map]; exact hxl) (fun b hb => by obtain ⟨u, hu, rfl⟩ := List.mem_map.1 hb; exact hbx u hu), hxs]
      exact wayErr_path o hask hi
    rw [h0]
    exact hJ _ _ ⟨rfl, e10⟩
  rintro c w10 ⟨rfl, e10⟩
  have E10 := E9.trans e10
  have v10 := v9.ext e10
  have vx10 := vx9.ext e10
  have ox10 := ox.ext e10
  have or10 := Own.ext or9 e10
  refine cond_i (fun h => by cases h) (fun _ => ?_)
  refine rem_i (by omega) ?_
  have hk : ((wh : Int).tmod (b1.len : Int)) = ((wh % (y.shp.h + 1) : Nat) : Int) := by rw [hbl, S.tmod_n]
  rw [hk]
  have hkl := Nat.mod_lt wh (show y.shp.h + 1 > 0 by omega)
  generalize wh % (y.shp.h + 1) = k at hkl
  have hkx : k < xs.length := by omega
  refine buildSlice_i (sz := 1) #[] (by simp [Instr.fill]) (by simp) (by omega) fun v w11 e11 o11 hl11 => ?_
  have o11 : OwnB w11 w10.heap.size v [] := o11
  have ox11 := ox10.ext e11
  refine elem_i (l := .slc) (x := (xs[k]'hkx).1) ox11.parts.rd (by omega) (by omega) (by rw [Int.toNat_natCast]; exact part_get ox11.parts hkx) ?_
  have hmk := List.getElem_mem hkx
  generalize xs[k]'hkx = u at hmk ⊢
  have hul := hbx u hmk
  refine appendB_i o11 (ox11.each u hmk) (by simp; omega) e11.size fun r4 w12 f12 o12 hin12 => ?_
  rw [List.nil_append] at o12
  have e1012 : Ext w10 w12 := Ext.own e11 f12 fun q hq => (o11.inB hq).1
  have hr4l : r4.len = y.shp.bN := by rw [OwnB.len o12, hul]
  have hd := Ext.drew w12
  refine ⟨fun x => Ext w12 x, hd, ?_⟩
  refine remQ_i (by omega) ?_
  have hj : (IntKind.wrap .i64 ((pt : Int).tdiv 8)).tmod (r4.len : Int) = ((pt / 8 % y.shp.bN : Nat) : Int) := by
    rw [show (pt : Int).tdiv 8 = ((pt / 8 : Nat) : Int) from rfl, wrap_nat (by omega), hr4l, S.tmod_n]
  rw [hj]
  have hjl := Nat.mod_lt (pt / 8) (show y.shp.bN > 0 by omega)
  generalize pt / 8 % y.shp.bN = j at hjl
  obtain ⟨a4, ha4⟩ := o12.rd.some (by omega)
  have hju : j < u.2.length := by omega
  refine ixQ_i ha4 (by omega) (by omega) ?_
  refine ldQ_i (l := .int .u8) (((u.2[j]'hju).toNat : Int)) (fun x hx => by have := (Own.ext o12 hx).rd.cells a4 ha4 j _ (bytes_get hju); simpa using this) ?_
  have htm : (0 : Int) ≤ (pt : Int).tmod 8 := by rw [show (pt : Int).tmod 8 = ((pt % 8 : Nat) : Int) from rfl]; omega
  refine shlQ_i htm ?_
  refine ixQ_i ha4 (by omega) (by omega) ?_
  rw [Int.toNat_natCast, Nat.mul_one]
  obtain ⟨c, hcx⟩ : ∃ c : UInt8, xorI .u8 ((u.2[j]'hju).toNat : Int) (shlI .u8 1 ((pt : Int).tmod 8)) = (c.toNat : Int) := ⟨_, wrap_u8_b _⟩
  rw [hcx]
  obtain ⟨⟨qq, hqu⟩, hfz, fr, o'⟩ := Own.set (Own.ext o12 hd) ha4 (i := j) (by omega) (vB c)
  refine st_i hqu hfz rfl ?_
  have o13 : OwnB (w12.drew.setCell (a4.add j) (vB c)) w10.heap.size r4 (u.2.set j c) := by unfold OwnB; rw [List.map_set]; exact o'
  show semS Tryd.prog (Instr.indexAt _ _ _) _ _ (w12.drew.setCell (a4.add j) (vB c))
  generalize w12.drew.setCell (a4.add j) (vB c) = w13 at fr o13
  have h4b : ∀ q, r4.inB q → w10.heap.size ≤ q := fun q hq => (o13.inB hq).1
  have e1013 : Ext w10 w13 := Ext.own (e1012.trans hd) fr h4b
  have ox13 := ox10.ext e1013
  have hapart : ∀ q, r4.inB q → ¬ b1.inB q := fun q hq hb => by have := (ox10.own.inB hb).2; have := h4b q hq; omega
  refine set_i (u := slV r4) ox13.own (by omega) (by omega) rfl fun w14 f14 o14 => ?_
  rw [Int.toNat_natCast] at o14
  have hp14 := setP (z := (r4, u.2.set j c)) ox13 f14 o14 o13.rd hapart
  have hb9 : ∀ q, b1.inB q → w8.heap.size ≤ q := fun q hq => (ox10.own.inB hq).1
  have e8_13 : Ext w8 w13 := (e9.trans e10).trans e1013
  have e8_14 : Ext w8 w14 := Ext.own e8_13 f14 hb9
  have E14 := E8.trans e8_14
  have v14 := v8.ext e8_14
  have vx14 := vx8.ext e8_14
  have or14 : OwnB w14 w7.heap.size r (y.shp.root y.H y.data.2) := Own.ext or e8_14
  generalize hys : xs.set k (r4, u.2.set j c) = ys at hp14
  have hyl : ys.length = y.shp.h + 1 := by rw [← hys, List.length_set]; exact hxl
  have hby : ∀ z ∈ ys, z.2.length = y.shp.bN := fun z hz => by
    rw [← hys] at hz
    rcases List.mem_or_eq_of_mem_set hz with hz | rfl
    · exact hbx z hz
    · show (u.2.set j c).length = _; rw [List.length_set]; exact hul
  clear hys ox13 o14 ox11 ox10 ox hxs hbx
  refine ld1_i (l := .int .i64) (o := 0) y.alg v14 rfl (ld1_i (l := .slc) (o := 2) y.salt.1 v14 rfl (ldSh_i vx14 ?_))
  refine climb_s (ht.ext E14) (hy.salt.ext E14) hp14 or14.rd hp1 (by omega) (fun z hz => by have := hby z hz; omega) fun w15 e15 => ?_
  rw [climbErr_way o hask hi (by rw [List.length_map]; exact hyl) (fun b hb => by obtain ⟨z, hz, rfl⟩ := List.mem_map.1 hb; exact hby z hz)]
  refine alloc_i fun gp w16 e16 hgp vp => ?_
  refine stPl_i (i := i) (l := 0) vp rfl fun w17 f17 vp17 => ?_
  have e1517 : Ext w15 w17 := Fr.own1 e16 f17 hgp
  have e1417 := e15.trans e1517
  have E17 := E14.trans e1417
  have hgp17 := vp17.lt
  have hget : ∀ n (hn : n < ys.length), (ys.map (·.2))[n]? = some (ys[n]'hn).2 := fun n hn => by simp [hn]
  refine loop_i (fun (st : Int × Int) w' => ∃ n : Nat, st.2 = n ∧ n ≤ y.shp.h ∧ Ext w15 w' ∧ Var w' gp (plC (i / y.shp.aN ^ n) n) ∧ ((st.1 = 0 ∧ (List.range n).any (badAt y.alg y.salt.2 y.shp i (ys.map (·.2))) = false) ∨ (st.1 = 54 ∧ (List.range y.shp.h).any (badAt y.alg y.salt.2 y.shp i (ys.map (·.2))) = true))) (fun st _ => y.shp.h - st.2.toNat)
    ⟨0, rfl, Nat.zero_le _, e1517, by simpa using vp17, .inl ⟨rfl, rfl⟩⟩ ?_
  rintro ⟨want, n'⟩ w18 again ⟨n, hn', hnh, e18, vp18, hst⟩ hag
  dsimp only at hn' hst ⊢
  subst hn'
  have E18 := (E14.trans e15).trans e18
  have e1418 := e15.trans e18
  have hp18 := hp14.ext e1418
  have v18 := v14.ext e1418
  have vx18 := vx14.ext e1418
  have hn1 : IntKind.wrap .i64 ((n : Int) + 1) = ((n + 1 : Nat) : Int) := wrap_nat (n := n + 1) (by omega)
  rw [hn1]
  refine cond_i (fun hlt => ?_) (fun hge => ?_)
  · simp only [Bool.and_eq_true, decide_eq_true_eq, beq_iff_eq] at hlt
    obtain ⟨hlt, rfl⟩ := hlt
    have hnh : n < y.shp.h := by omega
    obtain ⟨_, hno⟩ : (0 : Int) = 0 ∧ (List.range n).any (badAt y.alg y.salt.2 y.shp i (ys.map (·.2))) = false := by
      rcases hst with h | h
      · exact h
      · exact absurd h.1 (by decide)
    have hpin := path_in o hi n
    have hcm := S.Shp.c_max o n
    refine ldSh_i vx18 (ldPl_i vp18 ?_)
    refine rAbove_s o (by omega) (by omega) fun w19 e19 => ?_
    refine alloc_i fun gq w20 e20 hgq vq => ?_
    refine stPl_i vq rfl fun w21 f21 vq21 => ?_
    have e1921 : Ext w19 w21 := Fr.own1 e20 f21 hgq
    have e1821 := e19.trans e1921
    have hd21 := Ext.drew w21
    have e18d := e1821.trans hd21
    refine ⟨fun x => Ext w21 x, hd21, ?_⟩
    have hp21 := hp18.ext e1821
    obtain ⟨ap, hap⟩ := hp21.rd.some (by rw [hp21.len]; omega)
    have hpl := hp21.len
    have hx1 : n + 1 < ys.length := by omega
    have hx0 : n < ys.length := by omega
    have hbad := badAt_eq (i := i) o hask (hby _ (List.getElem_mem hx1)) (hget n hx0) (hget (n + 1) hx1)
    have m1 := List.getElem_mem hx1
    have m0 := List.getElem_mem hx0
    refine elemQ_i (l := .slc) (x := (ys[n + 1]'hx1).1) hap (fun y h => (hp21.ext h).rd) (by omega) (by omega) (by rw [Int.toNat_natCast]; exact part_get hp21 hx1) ?_
    have hoff := offAt_le o i n
    rw [show ((i / y.shp.aN ^ n % y.shp.aN * y.shp.dN : Nat) : Int) = (offAt y.shp i n : Int) from rfl]
    refine ld1Q_i (l := .int .i64) (o := 2) y.shp.d (fun x hx => (vx18.ext e1821).ext hx) rfl ?_
    have hwd : IntKind.wrap .i64 ((offAt y.shp i n : Int) + y.shp.d) = ((offAt y.shp i n + y.shp.dN : Nat) : Int) := by rw [o.d, ← Int.natCast_add]; exact wrap_nat (by omega)
    rw [hwd]
    have hb1' := hby _ m1
    have hb0' := hby _ m0
    have hu1 := hp21.each _ m1
    have hu1l := Bts.len hu1
    have hu1c := hu1.cap
    refine sl2Q_i (by omega) (by omega) (by omega) ?_
    rw [Int.toNat_natCast, Int.toNat_natCast]
    have hcut : ∀ x, Ext w21 x → Bts x ((ys[n + 1]'hx1).1.cut 1 (offAt y.shp i n) (offAt y.shp i n + y.shp.dN)) (((ys[n + 1]'hx1).2.drop (offAt y.shp i n)).take y.shp.dN) := fun x hx => by
      have := Bts.cut (hu1.ext hx) (l := offAt y.shp i n) (hi := offAt y.shp i n + y.shp.dN) (by omega) (by omega)
      rwa [Nat.add_sub_cancel_left] at this
    refine b2sQ_i hcut ?_
    have v21 := v18.ext e1821
    refine ld1Q_i (l := .int .i64) (o := 0) y.alg (fun x hx => v21.ext hx) rfl (ld1Q_i (l := .slc) (o := 2) y.salt.1 (fun x hx => v21.ext hx) rfl ?_)
    refine elemQ_i (l := .slc) (x := (ys[n]'hx0).1) hap (fun y h => (hp21.ext h).rd) (by omega) (by omega) (by rw [Int.toNat_natCast]; exact part_get hp21 hx0) ?_
    refine rdig_s (hy.salt.ext (E18.trans e18d)) ((hp21.each _ m0).ext hd21) hdz (by omega) fun r5 w22 e22 o22 => ?_
    have e2122 := hd21.trans e22
    refine more2_i (fun x => Ext w22 x) (Fr.refl _ _) (fun x hx => e2122.trans hx) ?_
    refine b2sQ_i (fun x hx => (Own.ext o22 hx).rd) ?_
    rw [str_toList, str_toList]
    have vq22 := vq21.ext e2122
    have e1822 := e1821.trans e2122
    have e22s := e1822.size
    have go : ∀ want' : Int, ((want' = 0 ∧ (List.range (n + 1)).any (badAt y.alg y.salt.2 y.shp i (ys.map (·.2))) = false) ∨ (want' = 54 ∧ (List.range y.shp.h).any (badAt y.alg y.salt.2 y.shp i (ys.map (·.2))) = true)) →
        semS Tryd.prog (Instr.loadAt 55 (.pointer (some (at_ gq 0)))) (.agg [(.int .i64), (.int .i64)]) (fun x76 x77 w => semU Tryd.prog (Instr.storeAt 55 (.pointer (some (at_ gp 0))) (.agg #[(.int .i64 x76), (.int .i64 x77)])) (fun w => again (want', ((n + 1 : Nat) : Int)) w) w) w22 := by
      intro want' hw
      refine ldPl_i vq22 ?_
      refine stPl_i (vp18.ext e1822) rfl fun w23 f23 vp23 => ?_
      refine hag _ w23 ⟨n + 1, rfl, by omega, Fr.own1 (e18.trans e1822) f23 hgp, ?_, hw⟩ (by dsimp only; omega)
      rw [div_pow_succ]; exact vp23
    refine cond_i (fun h => ?_) (fun h => ?_)
    · refine go 54 (.inr ⟨rfl, List.any_eq_true.2 ⟨n, List.mem_range.2 hnh, ?_⟩⟩)
      rw [hbad]; exact h
    · refine go 0 (.inl ⟨rfl, ?_⟩)
      rw [List.range_succ, List.any_append, hno, Bool.false_or]
      simp only [List.any_cons, List.any_nil, Bool.or_false]
      rw [hbad]; exact h
  · have hd18 := Ext.drew w18
    refine ⟨fun x => Ext w18 x, hd18, ?_⟩
    refine cond_i (fun hw => ?_) (fun hw => ?_)
    · have hw0 : want = 0 := by simpa using hw
      subst hw0
      have hnh' : n = y.shp.h := by
        simp only [beq_self_eq_true, Bool.and_true, decide_eq_false_iff_not] at hge
        omega
      subst hnh'
      have hno : (List.range y.shp.h).any (badAt y.alg y.salt.2 y.shp i (ys.map (·.2))) = false := by
        rcases hst with h | h
        · exact h.2
        · exact absurd h.1 (by decide)
      have hx0 : y.shp.h < ys.length := by omega
      have m0 := List.getElem_mem hx0
      have hb0' := hby _ m0
      have hwl : IntKind.wrap .i64 ((b1.len : Int) - 1) = (y.shp.h : Int) := by rw [show (b1.len : Int) - 1 = (y.shp.h : Int) by omega]; exact wrap_nat (by omega)
      rw [hwl]
      refine ld1Q_i (l := .int .i64) (o := 0) y.alg (fun x hx => v18.ext hx) rfl (ld1Q_i (l := .slc) (o := 2) y.salt.1 (fun x hx => v18.ext hx) rfl ?_)
      obtain ⟨ap, hap⟩ := hp18.rd.some (by rw [hp18.len]; omega)
      have hpl := hp18.len
      refine elemQ_i (l := .slc) (x := (ys[y.shp.h]'hx0).1) hap (fun y h => (hp18.ext h).rd) (by omega) (by omega) (by rw [Int.toNat_natCast]; exact part_get hp18 hx0) ?_
      have or18 := Own.ext or14 e1418
      refine b2sQ_i (fun x hx => (Own.ext or18 hx).rd) ?_
      refine rdig_s (hy.salt.ext (E18.trans hd18)) ((hp18.each _ m0).ext hd18) hdz (by omega) fun r5 w22 e22 o22 => ?_
      have e1822 := hd18.trans e22
      refine more2_i (fun x => Ext w22 x) (Fr.refl _ _) (fun x hx => e1822.trans hx) ?_
      refine b2sQ_i (fun x hx => (Own.ext o22 hx).rd) ?_
      rw [str_toList, str_toList]
      have hway : wayErr y.alg y.salt.2 y.shp i (ys.map (·.2)) (y.shp.root y.H y.data.2) = if S.dg y.alg y.salt.2 (ys[y.shp.h]'hx0).2 == y.shp.root y.H y.data.2 then 0 else 51 := by
        unfold wayErr
        rw [if_neg (by rw [hno]; decide), List.getD_eq_getElem?_getD, hget _ hx0, Option.getD_some]
      rw [hway]
      have hfin := hK w22 (E18.trans e1822)
      refine cond_i (fun h => ?_) (fun h => ?_)
      · rw [if_neg (by simpa using h)]; exact hfin
      · rw [if_pos (by simpa using h)]; exact hfin
    · have hw0 : want ≠ 0 := by simpa using hw
      obtain ⟨rfl, hyes⟩ : want = 54 ∧ (List.range y.shp.h).any (badAt y.alg y.salt.2 y.shp i (ys.map (·.2))) = true := by
        rcases hst with h | h
        · exact absurd h.1 hw0
        · exact h
      unfold wayErr
      rw [if_pos hyes]
      exact hK _ (E18.trans hd18)
end Go.Proofs.YtbmcbjmpogbmeaaDoor
