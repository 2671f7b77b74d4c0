/- Layer 17 (verity): the law VerityTrue. -/
import Derived.Test.YteopoodhclljjaaGreatDoorG17m
set_option linter.unusedSimpArgs false
set_option linter.unusedVariables false
/-! Law17e -/
namespace Go.Proofs.YteopoodhclljjaaGreatDoor
open Go Go.Eng
open Go.S (Pl Kn Vq Vr klook vfirst vblk vput)
section
variable {y : SV} {w0 w w' : World} {B : Nat} {L : Lay} {X X' : VX} {V : VM} {M : RM} {T : PT}
/-- What goes up by a way, climbs. -/
theorem way_climb {q : Vq} {n : Nat} {xs : List (List UInt8)} (hq : VqOk q) (hask : askErr q.a q.salt q.x = 0) (hn : n < q.x.c 0) (hw : VWay q n xs) : climbErr q.a q.salt q.x (n : Int) xs q.dig = 0 := by
  have o := hq.x
  have hb := o.b
  have hb2 := o.b2
  unfold climbErr
  rw [hask, if_neg (by decide), if_neg (by omega), if_neg, Int.toNat_natCast]
  · have hgd : ∀ k, k ≤ q.x.h → ∃ t, xs[k]? = some t ∧ xs.getD k [] = t ∧ t.length = q.x.bN := fun k hk => by
      have hlt : k < xs.length := by rw [hw.len]; omega
      refine ⟨xs[k], List.getElem?_eq_getElem hlt, by simp [List.getD_eq_getElem?_getD, hlt], hw.each _ (List.getElem_mem hlt)⟩
    have hno : (List.range q.x.h).any (badAt q.a q.salt q.x n xs) = false := by
      rw [List.any_eq_false]
      intro k hk
      have hk := List.mem_range.1 hk
      obtain ⟨t, h1, h2, h3⟩ := hgd k (by omega)
      obtain ⟨u, h4, h5, h6⟩ := hgd (k + 1) (by omega)
      have hoa := offAt_le hq n k
      have : chk q.a q.salt u (offAt q.x n k : Int) t = true := (chk_iff hq (by omega) (by omega)).2 (hw.way k t u h1 h4)
      unfold badAt
      rw [h2, h5, this]; simp
    unfold wayErr
    rw [if_neg (by rw [hno]; decide)]
    obtain ⟨t, h1, h2, h3⟩ := hgd q.x.h (Nat.le_refl _)
    rw [h2, if_pos]
    rw [beq_iff_eq]
    exact hw.top t h1
  · rintro (h | h)
    · exact h hw.len
    · obtain ⟨b, hm, hb'⟩ := List.any_eq_true.1 h
      have := hw.each b hm
      have : (b.length : Int) = q.x.b := by omega
      rw [this] at hb'
      simp at hb'
theorem RAt.fresh {gm : Nat} (hX : X'.gr = gm) (v : Var w gm (rCells X' ⟨Sl.nil, Sl.nil, Sl.nil, [], [], false⟩)) (hs : Bts w X'.d.salt.1 X'.d.salt.2) (hd : Bts w X'.d.dig.1 X'.d.dig.2) (hsep : ∀ k, ((X'.d.salt.2 ≠ [] ∧ X'.d.salt.1.inB k) ∨ (X'.d.dig.2 ≠ [] ∧ X'.d.dig.1.inB k)) → k ≠ gm ∧ k < w.heap.size) : RAt w X' ⟨Sl.nil, Sl.nil, Sl.nil, [], [], false⟩ := by
  refine ⟨by rw [hX]; exact v, Own.nilSl _ _ _, Own.nilSl _ _ _, (fun e he => by cases he), Rd.nilSl _ _, (fun x hx => by cases hx), hs, hd, fun k hk => ?_, ?_, ?_, ?_⟩
  · have hk' : (X'.d.salt.2 ≠ [] ∧ X'.d.salt.1.inB k) ∨ (X'.d.dig.2 ≠ [] ∧ X'.d.dig.1.inB k) := by
      rcases hk with ⟨a, ha', _⟩ | ⟨x, hx, _⟩ | ⟨e, he, _⟩ | hk
      · cases ha'
      · cases hx
      · cases he
      · exact hk
    obtain ⟨q1, q2⟩ := hsep k hk'
    refine ⟨fun hm => ?_, q2⟩
    rcases hm with hm | ⟨a, ha', _⟩ | ⟨a, ha', _⟩
    · exact q1 (hm.trans hX)
    · cases ha'
    · cases ha'
  · rintro ⟨a, ha', _⟩; cases ha'
  · rintro ⟨a, ha', _⟩; cases ha'
  · rintro k ⟨a, ha', _⟩; cases ha'
theorem bfn_none (n : Nat) : S.bfn (List.replicate n false) = fun _ => false := by
  funext k
  unfold S.bfn
  have : (List.replicate n false).getD k.toNat false = false := by
    rw [List.getD_eq_getElem?_getD, List.getElem?_replicate]
    split <;> rfl
  rw [this, Bool.and_false]
set_option maxHeartbeats 2000000 in
theorem same_s {n : Nat} {bl tr : Sl} {bs : List UInt8} {xs : List (Sl × List UInt8)} {K : Bool → World → Prop} (hy : y.Ok w) (ht : Tabs9 w) (ha : y.ask = 0) (hd : y.data.2.length ≤ 1500) (R : Rdy y X) (hn : n < y.x.c 0) (hb : Bts w bl bs) (hp : Parts w tr xs) (hw : VWay X.q n (xs.map (·.2))) (h0 : (xs.map (·.2))[0]? = some bs) (hK : ∀ w', Ext w w' → K true w') :
    callS Tryz.prog 24 #[.agg y.cells.toArray, .int .i64 (n : Int), .slice bl.a bl.len bl.cap, .slice tr.a tr.len tr.cap] [.one .bool] K w := by
  refine f24_ok ?_
  unfold f24
  have o := SV.xok ha
  have hh := S.Shp.h_le o
  have hb2 := o.b2
  have hqx : X.q.x = y.x := by rw [R.qe]
  have hqH : S.dg X.q.a X.q.salt = y.H := by rw [R.qe]; rfl
  have hqd : X.q.dig = y.root := by rw [R.qe]
  have hxl : xs.length = y.x.h + 1 := by have := hw.len; rw [List.length_map, hqx] at this; exact this
  have hxb : ∀ x ∈ xs, x.2.length = y.x.bN := fun x hx => by have := hw.each x.2 (List.mem_map.2 ⟨x, hx, rfl⟩); rwa [hqx] at this
  refine box_i fun g w1 e1 hg v1 => ?_
  have v1 : Var w1 g y.cells := v1
  refine want_i v1 (hy.ext e1) ha hd hn fun s w2 e2 hs => ?_
  have E2 := e1.trans e2
  refine b2s_i (hb.ext E2) (b2s_i hs ?_)
  rw [str_toList, str_toList]
  refine cond_i (fun _ => hK w2 E2) (fun hne => ?_)
  have hne : bs ≠ y.x.blk y.H y.data.2 0 n := by simpa using hne
  have v2 := v1.ext e2
  refine ldSV_i v2 ?_
  have ht2 := ht.ext E2
  refine made_s (y := y) (hy.ext E2) ht2 (Fr.refl _ w2) hd (fun h => absurd ha h) fun _ gd L r w3 e3 hin hP or hrd => ?_
  refine alloc_i fun g2 w4 e4 hg2 v4 => ?_
  refine stD_i (d := y.d r) v4 rfl fun w5 f5 v5 => ?_
  have e35 : Ext w3 w5 := Fr.own1 e4 f5 hg2
  have e25 := e3.trans e35
  refine ldD_i v5 ?_
  refine mkDescr_s (d := y.d r) fun w6 e6 => ?_
  have e26 := e25.trans e6
  refine box_i fun gm w7 e7 hgm v7 => ?_
  obtain ⟨X', hX'⟩ : ∃ X' : VX, X' = ⟨gm, gd, y.d r, 0⟩ := ⟨_, rfl⟩
  have R2 : Rdy y X' := by rw [hX']; rfl
  have e37 := (e35.trans e6).trans e7
  have e27 := e26.trans e7
  have s3 := e3.size
  have s37 := e37.size
  have s36 := (e35.trans e6).size
  have hgml := v7.lt
  have hm7 : RAt w7 X' ⟨Sl.nil, Sl.nil, Sl.nil, [], [], false⟩ := by
    subst hX'
    refine RAt.fresh (gm := gm) rfl v7 ((hy.ext E2).ext e27).salt (Own.rd (Own.ext or e37)) fun k hk => ?_
    rcases hk with ⟨hne, a, ha', rfl⟩ | ⟨_, hk⟩
    · have hne : y.salt.2 ≠ [] := hne
      have := rd_lt (hy.salt.ext E2) (by simpa using hne) ha'
      omega
    · have := (Own.inB or hk).2
      omega
  have x2 := R2.ok ha hd
  have hP7 := hP.ext e37
  refine part17_s hP7 fun ds bs2 w8 f8 P8 od8 ob8 hdb8 => ?_
  have hgdlt := hP.gdlt
  have m8 := hm7.fr f8 fun k hk e => by
    rw [e] at hk
    rcases hk with hk | hk
    · rcases hk with hk | ⟨a, ha', _⟩ | ⟨a, ha', _⟩
      · rw [hX'] at hk
        have hk : gd = gm := hk
        omega
      · cases ha'
      · cases ha'
    · rcases hk with ⟨a, ha', _⟩ | ⟨x, hx, _⟩ | ⟨e, he, _⟩ | ⟨hne, hk⟩ | ⟨hne, hk⟩
      · cases ha'
      · cases hx
      · cases he
      · rw [hX'] at hk hne
        have hne : y.salt.2 ≠ [] := hne
        obtain ⟨a, ha', hk⟩ := hk
        have := rd_lt (hy.salt.ext E2) (by simpa using hne) ha'
        omega
      · rw [hX'] at hk
        exact hrd _ hk (.inl rfl)
  have s8 := f8.size
  refine buildSlice_i (partC ds bs2).toArray (by kernel_rfl) rfl (by omega) fun lv w9 e9 o9 hlvl => ?_
  have s9 := e9.size
  have m9 := m8.ext e9
  obtain ⟨T, hT⟩ : ∃ T : PT, T = ⟨lv, ds, bs2, y.part, List.replicate (y.part.length / 64) false⟩ := ⟨_, rfl⟩
  have hz := S.vSize_ge y.data.2.length y.T.length
  have hplen : y.part.length = S.vSize y.data.2.length y.T.length := S.vPart_len _ _
  have hTr : PtRd w9 T := by
    rw [hT]
    refine ⟨o9.rd, (Own.ext od8 e9).rd, (ob8.ext e9).rd, ?_, hP.len⟩
    show (List.replicate (y.part.length / 64) false).length * 64 = y.part.length
    rw [List.length_replicate]; omega
  have hds : ∀ k, ds.inB k → w7.heap.size ≤ k := fun k hk => (Own.inB od8 hk).1
  have hbs : ∀ k, bs2.inB k → w7.heap.size ≤ k := fun k hk => (ob8.inB hk).1
  have hls : ∀ k, lv.inB k → w8.heap.size ≤ k := fun k hk => (o9.inB hk).1
  have hTs : ∀ k, RM.mut ⟨Sl.nil, Sl.nil, Sl.nil, [], [], false⟩ X' k → ¬ (T.l.inB k ∨ T.ds.inB k ∨ T.bs.inB k) := fun k hk hc => by
    have hkg : k = gm := by
      rcases hk with hk | ⟨a, ha', _⟩ | ⟨a, ha', _⟩
      · rw [hX'] at hk; exact hk
      · cases ha'
      · cases ha'
    rw [hT] at hc
    rcases hc with hc | hc | hc
    · have := hls k hc; omega
    · have := hds k hc; omega
    · have := hbs k hc; omega
  have hcm := S.Shp.c_max o 0
  have hfair : FFair X'.q y.data.2 (X'.F T.b (S.bfn T.bads)) := by
    have : X'.F T.b (S.bfn T.bads) = X'.F y.part fun _ => false := by rw [hT, bfn_none]
    rw [this]; exact R2.fair ha
  rw [show gm = X'.gr by rw [hX'], show lv = T.l by rw [hT]]
  refine rfRead_s m9 hTr hTs x2 (VOk.nil _) ⟨by omega, by omega⟩ fun v w10 M' f10 m10 hp10 _ _ _ _ => ?_
  obtain ⟨_, _, _, g4⟩ := vread_fair x2.q hfair R2.root (R := RM.pure ⟨Sl.nil, Sl.nil, Sl.nil, [], [], false⟩) (VOk.nil _) (fun e he => by cases he) rfl (n : Int)
  have hqx2 : X'.q.x = y.x := by rw [R2.qe]
  have hqH2 : S.dg X'.q.a X'.q.salt = y.H := by rw [R2.qe]; rfl
  obtain ⟨_, g42, g43, _⟩ := g4 n rfl (by rw [hqx2]; exact hn)
  rw [hqx2, hqH2] at g43
  rw [g42]
  refine cond_i (fun h => by cases h) (fun _ => ?_)
  have htrc : M'.trc.map (·.2) = y.x.onPath y.H y.data.2 n := by rw [← g43]; exact congrArg Vr.trace hp10
  have e79 : Fr (fun k => k = gd) w7 w9 := f8.then e9
  have hgd7 : w2.heap.size ≤ gd := hgdlt.1
  have E9 : Ext w w9 := Ext.own (E2.trans e27) e79 fun i hi => by have := E2.size; omega
  have e29 : Ext w2 w9 := Ext.own e27 e79 fun i hi => by omega
  have hmg : ∀ k, RM.mut ⟨Sl.nil, Sl.nil, Sl.nil, [], [], false⟩ X' k → k = gm := fun k hk => by
    rcases hk with hk | ⟨a, ha', _⟩ | ⟨a, ha', _⟩
    · rw [hX'] at hk; exact hk
    · cases ha'
    · cases ha'
  have E10 : Ext w w10 := Ext.own E9 f10 fun i hi => by have := hmg i hi; have := E2.size; omega
  have e210 : Ext w2 w10 := Ext.own e29 f10 fun i hi => by have := hmg i hi; omega
  refine ld1_i (l := .slc) (o := 16) M'.tr m10.var rfl ?_
  have hA : Parts w10 M'.tr M'.trc := ⟨m10.tr, fun x hx => (m10.trc x hx).1⟩
  have hal : M'.trc.length = y.x.h + 1 := by have := congrArg List.length htrc; rw [List.length_map, S.Shp.onPath_len] at this; exact this
  have hab : ∀ x ∈ M'.trc, x.2.length = y.x.bN := fun x hx => by
    have : x.2 ∈ M'.trc.map (·.2) := List.mem_map.2 ⟨x, hx, rfl⟩
    rw [htrc] at this
    exact S.Shp.onPath_mem o (SV.len ha) this
  have hB : Parts w10 tr xs := hp.ext E10
  have hvq := SV.vq ha X.mode
  refine differ_s hA hB (by omega) (by omega) (fun x hx => by rw [hab x hx]; omega) (fun x hx => by rw [hxb x hx]; omega) (fun hnone => ?_) fun p q hsome r1 r2 w11 e11 o11 o12 => ?_
  · exfalso
    have hle : (rv M'.trc).length = (rv xs).length := by rw [rv_len, rv_len]; omega
    have := S.difR_none hle hnone
    unfold rv at this
    have h2 := List.reverse_inj.1 this
    rw [← h2, htrc, S.Shp.onPath_get (Nat.zero_le _), Nat.pow_zero, Nat.div_one] at h0
    exact hne (Option.some.inj h0).symm
  · have hw' := hw.way
    have htop := hw.top
    rw [hqx, hqH] at hw' htop
    rw [hqd] at htop
    have hsome' : S.difR (M'.trc.map fun x : Sl × List UInt8 => x.2).reverse (xs.map fun x : Sl × List UInt8 => x.2).reverse = some (p, q) := hsome
    obtain ⟨d1, d2, d3, d4⟩ := S.dif_way (A := M'.trc.map fun x : Sl × List UInt8 => x.2) (B := xs.map fun x : Sl × List UInt8 => x.2) (H := y.H) (off := fun k => offAt y.x n k) (D := y.x.dN) (by rw [List.length_map, List.length_map]; omega) (fun k a b h1 h2 => by
        rw [htrc] at h1 h2
        exact S.Shp.onPath_way o (SV.len ha) hn k a b h1 h2) hw' (fun a b h1 h2 => by
        rw [List.length_map, hal, Nat.add_sub_cancel] at h1 h2
        rw [htop b h2]
        rw [htrc, S.Shp.onPath_top o hn] at h1
        rw [← Option.some.inj h1]; rfl) hsome'
    have hpl : p.length = y.x.bN := by
      obtain ⟨x, hx, rfl⟩ := List.mem_map.1 d3
      exact hab x hx
    have hql : q.length = y.x.bN := by
      obtain ⟨x, hx, rfl⟩ := List.mem_map.1 d4
      exact hxb x hx
    have hdr := Ext.drew w11
    have E11 := E10.trans e11
    refine ⟨fun z => Ext w11 z, hdr, ?_⟩
    refine cond_i (fun _ => ?_) (fun h => by cases h)
    refine b2sQ_i (fun z hz => (Own.ext o11 hz).rd) ?_
    refine b2sQ_i (fun z hz => (Own.ext o12 hz).rd) ?_
    rw [str_toList, str_toList]
    refine cond_i (fun _ => ?_) (fun h => absurd (by simpa using h) d1)
    have l1 := OwnB.len o11
    have l2 := OwnB.len o12
    refine cond_i (fun _ => ?_) (fun h => by rw [l1, l2, hpl, hql] at h; simp at h)
    have v11 := v2.ext (e210.trans e11)
    have hyw := hy.ext E11
    obtain ⟨q1, q2, _, _⟩ := askErr_ok ha
    refine ld1Q_i (l := .int .i64) (o := 0) y.alg (fun z hz => v11.ext hz) rfl ?_
    refine ld1Q_i (l := .slc) (o := 3) y.salt.1 (fun z hz => v11.ext hz) rfl ?_
    refine ld1Q_i (l := .int .i64) (o := 0) y.alg (fun z hz => v11.ext hz) rfl ?_
    refine ld1Q_i (l := .slc) (o := 3) y.salt.1 (fun z hz => v11.ext hz) rfl ?_
    refine rdig_s (salt := y.salt.2) (xs := p) (hyw.salt.ext hdr) (Own.ext o11 hdr).rd q1 (by omega) fun v1 w12 e12 p12 => ?_
    have e1112 := hdr.trans e12
    refine more2_i (fun z => Ext w12 z) (Fr.refl _ _) (fun z hz => e1112.trans hz) ?_
    refine b2sQ_i (fun z hz => (Own.ext p12 hz).rd) ?_
    refine rdig_s (salt := y.salt.2) (xs := q) (hyw.salt.ext e1112) (Own.ext o12 e1112).rd q1 (by omega) fun v2 w13 e13 p13 => ?_
    refine more2_i (fun z => Ext w13 z) (Fr.refl _ _) (fun z hz => e13.trans hz) ?_
    refine b2sQ_i (fun z hz => (Own.ext p13 hz).rd) ?_
    rw [str_toList, str_toList]
    have hH : (S.dg y.alg y.salt.2 p == S.dg y.alg y.salt.2 q) = true := by rw [beq_iff_eq]; exact d2
    rw [hH]
    exact hK w13 (E11.trans (e1112.trans e13))
structure TrueAt (w0 w : World) (B : Nat) (L : Lay) (y : SV) (X : VX) (V : VM) (b : List UInt8) (bad : Int → Bool) (g2 gs gf : Nat) (r ds bs : Sl) : Prop where
  p : P1 w0 w B X.gd L b bad
  len : b.length = y.part.length
  v : VrAt w B X V
  ok : VOk X.q (knP V.kn)
  vd : Var w g2 (y.d r).cells
  vs : Var w gs (shC y.x)
  vf : Var w gf (partC ds bs)
  root : Bts w r y.root
  s2 : ∀ k, V.all X k → k ≠ g2 ∧ k ≠ gs ∧ k ≠ gf ∧ ¬ r.inB k
  lo : ∀ k, L.inD X.gd k → k ≠ g2 ∧ k ≠ gs ∧ k ≠ gf ∧ ¬ r.inB k
  rlt : ∀ k, r.inB k → k < w.heap.size
theorem TrueAt.fr {b : List UInt8} {bad : Int → Bool} {g2 gs gf : Nat} {r ds bs : Sl} {S : Nat → Prop} (h : TrueAt w0 w B L y X V b bad g2 gs gf r ds bs) (hf : Fr S w w') (h0 : ∀ k, S k → w0.heap.size ≤ k) (h1 : ∀ k, L.inD X.gd k → ¬ S k) (h2 : ∀ k, V.all X k → ¬ S k) (h3 : ∀ k, S k → k ≠ g2 ∧ k ≠ gs ∧ k ≠ gf ∧ ¬ r.inB k) : TrueAt w0 w' B L y X V b bad g2 gs gf r ds bs :=
  ⟨h.p.fr hf h1 h0, h.len, h.v.fr hf h2, h.ok, h.vd.fr hf fun hs => (h3 _ hs).1 rfl, h.vs.fr hf fun hs => (h3 _ hs).2.1 rfl, h.vf.fr hf fun hs => (h3 _ hs).2.2.1 rfl, h.root.fr hf fun a ha hs => (h3 _ hs).2.2.2 ⟨a, ha, rfl⟩, h.s2, h.lo, fun k hk => Nat.lt_of_lt_of_le (h.rlt k hk) hf.size⟩
theorem TrueAt.ext {b : List UInt8} {bad : Int → Bool} {g2 gs gf : Nat} {r ds bs : Sl} (h : TrueAt w0 w B L y X V b bad g2 gs gf r ds bs) (e : Ext w w') : TrueAt w0 w' B L y X V b bad g2 gs gf r ds bs := h.fr e (fun _ h => h.elim) (fun _ _ => id) (fun _ _ => id) fun _ h => h.elim
/-- A step that is no read. -/
theorem trueTurn_s {b : List UInt8} {bad : Int → Bool} {g2 gs gf : Nat} {r ds bs : Sl} {o : VOp} {s1 s2 : Sl} {gp : Nat} {K : World → Prop} {u : World} (h : TrueAt w0 w B L y X V b bad g2 gs gf r ds bs) (eu : Ext u w) (hu : TrueAt w0 u B L y X V b bad g2 gs gf r ds bs) (ho : o.Ok w0) (ho3 : o.dat.2.length ≤ 300)
    (vp : Var w gp [.string ByteArray.empty, slV s1, slV s2]) (o1 : OwnB w u.heap.size s1 (List.replicate b.length 0)) (o2 : Own w u.heap.size s2 1 ((List.replicate (b.length / 64) false).map Value.bool)) (hgp : u.heap.size ≤ gp) (h12 : ∀ k, s1.inB k → ¬ s2.inB k) (hpp : ∀ k, (s1.inB k ∨ s2.inB k) → k ≠ gp)
    (hK : ∀ b' bad' w', TrueAt w0 w' B L y X V b' bad' g2 gs gf r ds bs → K w') :
    callS Tryz.prog 14 #[.pointer (some (at_ X.gd 0)), .pointer (some (at_ gp 0)), .agg #[.int .i64 o.kind, .int .i64 o.i, .slice o.dat.1.a o.dat.1.len o.dat.1.cap, .bool o.on]] [] K w := by
  have how : o.Ok w := ⟨ho.kind, ho.i, ho.dat.ext h.p.e0⟩
  have hD : ∀ k, L.inD X.gd k → k < u.heap.size := fun k hk => hu.p.in hk
  have hV : ∀ k, V.all X k → k < u.heap.size := fun k hk => (hu.v.in hk).2
  have hu0 := hu.p.e0.size
  have hn1 : ∀ k, (s1.inB k ∨ s2.inB k) → u.heap.size ≤ k := fun k hk => hk.elim (fun hk => (Own.inB o1 hk).1) fun hk => (o2.inB hk).1
  have hg2 := hu.vd.lt
  have hgs := hu.vs.lt
  have hgf := hu.vf.lt
  refine turn17_s (b' := List.replicate b.length 0) (bads := List.replicate (b.length / 64) false) h.p how ho3 (fun hne a ha => ?_) (by rw [at_add]; exact vp.cell rfl) (by rw [at_add]; exact vp.cell rfl) o1 o2 List.length_replicate List.length_replicate (fun k hk => ⟨fun hd => ?_, hpp k hk, ?_⟩) h12 (fun hd => ?_) fun w' f P _ _ => ?_
  · have hlt := rd_lt ho.dat (by simpa using hne) ha
    refine ⟨fun hd => ?_, fun hd => ?_⟩
    · have := (h.p.lo _ hd).1; omega
    · have := hn1 _ (.inl hd); omega
  · have := hD k hd; have := hn1 k hk; omega
  · have := hn1 k hk; omega
  · have := hD _ hd
    have : gp < u.heap.size := this
    omega
  · have hnot : ∀ k, (L.inD X.gd k ∨ s1.inB k ∨ s2.inB k) → k ≠ g2 ∧ k ≠ gs ∧ k ≠ gf ∧ ¬ r.inB k := fun k hk => by
      rcases hk with hk | hk
      · exact h.lo k hk
      · have h1 := hn1 k hk
        exact ⟨by omega, by omega, by omega, fun hr => by have := hu.rlt _ hr; omega⟩
    refine hK _ _ w' ⟨P, by rw [turnB_len]; exact h.len, h.v.fr f fun k hk hc => ?_, h.ok, h.vd.fr f fun hc => (hnot _ hc).1 rfl, h.vs.fr f fun hc => (hnot _ hc).2.1 rfl, h.vf.fr f fun hc => (hnot _ hc).2.2.1 rfl, h.root.fr f fun a ha hc => (hnot _ hc).2.2.2 ⟨a, ha, rfl⟩, h.s2, h.lo, fun k hk => Nat.lt_of_lt_of_le (h.rlt k hk) f.size⟩
    rcases hc with hc | hc
    · have := (h.v.in hk).1; have := (h.p.lo k hc).2; omega
    · have := hn1 k hc; have := hV k hk; omega
set_option maxHeartbeats 4000000 in
theorem true_t1 {p1 : Sl} {os : List VOp} {g g2 gs : Nat} {r : Sl} {m : Nat} {K : Bool → World → Prop} {W w3 : World} (hW : Ext W w3) (hy : y.Ok W) (hp : VOpsIn W p1 os) (hp60 : p1.len ≤ 60) (ht3 : Tabs9 w3) (ha : y.ask = 0) (hd1500 : y.data.2.length ≤ 1500) (R1 : Rdy y X)
    (v3 : Var w3 g y.cells) (hP : P1 w3 w B X.gd L y.part (fun _ => false)) (hv : VrAt w B X (VM.fresh m)) (hBw : B ≤ w.heap.size) (hB3 : w3.heap.size ≤ B) (vd : Var w g2 (y.d r).cells) (hg2 : B ≤ g2) (vs : Var w gs (shC y.x)) (hgs : B ≤ gs) (hr : Bts w r y.root) (hrd : ∀ k, r.inB k → ¬ L.inD X.gd k ∧ w3.heap.size ≤ k ∧ k < B)
    (hs2 : ∀ k, (VM.fresh m).all X k → k ≠ g2 ∧ k ≠ gs) (hK : ∀ w', Ext W w' → K true w') :
    f4_t1 (some (at_ X.gd 0)) p1 K (some (at_ X.gr 0)) (at_ g2 0) (at_ gs 0) (at_ g 0) w := by
  unfold f4_t1
  have hpl : p1.len = os.length := by have := hp.rds.len; rw [List.length_map] at this; omega
  have x1 := R1.ok ha hd1500
  have o := SV.xok ha
  have hh := S.Shp.h_le o
  have hb2 := o.b2
  have hqx : X.q.x = y.x := by rw [R1.qe]
  have hgdlt := hP.gdlt
  have hz := S.vSize_ge y.data.2.length y.T.length
  refine part17_s hP fun ds bs w4 f4 P4 od4 ob4 hdb4 => ?_
  refine alloc_i fun gf w5 e5 hgf v5 => ?_
  refine stV_i (n := 3) (vs := partC ds bs) 0 v5 rfl (Nat.le_refl 3) (fun u hu => by
    simp only [partC, List.mem_cons, List.not_mem_nil, or_false] at hu
    rcases hu with rfl | rfl | rfl <;> rfl) fun w6 f6 v6 => ?_
  have v6 : Var w6 gf (partC ds bs) := v6
  have e46 : Ext w4 w6 := Fr.own1 e5 f6 hgf
  have s4 := f4.size
  have hdsl : ds.len = y.part.length := OwnB.len od4
  have hbsl : bs.len = y.part.length / 64 := by have := ob4.len; simp at this; omega
  have hVlt : ∀ k, (VM.fresh m).all X k → k < w.heap.size := fun k hk => (hv.in hk).2
  have hg2l := vd.lt
  have hgsl := vs.lt
  have H6 : TrueAt w3 w6 B L y X (VM.fresh m) y.part (fun _ => false) g2 gs gf r ds bs := by
    refine ⟨P4.ext e46, rfl, (hv.rd hP f4).ext e46, VOk.nil _, (vd.fr f4 (by omega)).ext e46, (vs.fr f4 (by omega)).ext e46, v6, (hr.fr f4 fun a ha' e => ?_).ext e46, fun k hk => ?_, fun k hk => ?_, fun k hk => ?_⟩
    · have := (hrd _ ⟨a, ha', rfl⟩).1
      rw [e] at this
      exact this (.inl rfl)
    · have h1 := hs2 k hk
      have h2 := hVlt k hk
      have h3 := (hv.in hk).1
      exact ⟨h1.1, h1.2, by omega, fun hc => by have := hrd k hc; omega⟩
    · have h1 := hP.lo k hk
      have h2 := hP.in hk
      exact ⟨by omega, by omega, by omega, fun hc => (hrd k hc).1 hk⟩
    · have := hrd k hk
      have := e46.size
      omega
  refine loop_i (fun (x : Int) w' => ∃ (k : Nat) (V : VM) (b : List UInt8) (bad : Int → Bool), x = k ∧ k ≤ os.length ∧ TrueAt w3 w' B L y X V b bad g2 gs gf r ds bs) (fun x _ => os.length - x.toNat) ⟨0, _, _, _, rfl, Nat.zero_le _, H6⟩ ?_
  rintro _ w7 again ⟨k, V, b, bad, rfl, hk, H⟩ hag
  have E7 := hW.trans H.p.e0
  refine cond_i (fun hlt => ?_) (fun hge => hK w7 E7)
  have hlt : k < os.length := by have : (k : Int) < (p1.len : Int) := of_decide_eq_true hlt
                                 omega
  have hwk : IntKind.wrap .i64 ((k : Int) + 1) = ((k + 1 : Nat) : Int) := wrap_nat (n := k + 1) (by omega)
  refine vop_at hp E7 hlt fun go w8 e8 hgo v8 => ?_
  have hook := hp.ok _ (List.getElem_mem hlt)
  generalize os[k]'hlt = o at hook v8
  have H8 := H.ext e8
  have hodl := Bts.len hook.dat
  refine ld1_i (l := .slc) (o := 2) o.dat.1 v8 rfl ?_
  refine cond_i (fun _ => hK w8 (E7.trans e8)) (fun h300 => ?_)
  have h300 : ¬ (o.dat.1.len : Int) > 300 := of_decide_eq_false h300
  refine ld1_i (l := .int .i64) (o := 0) o.kind v8 rfl ?_
  have ho3 : o.Ok w3 := ⟨hook.kind, hook.i, hook.dat.ext hW⟩
  have hble := H8.p.len
  refine cond_i (fun hk1 => ?_) (fun hk1 => ?_)
  · have hdr := Ext.drew w8
    have next : ∀ b' bad' w', TrueAt w3 w' B L y X V b' bad' g2 gs gf r ds bs → again (IntKind.wrap .i64 ((k : Int) + 1)) w' := fun b' bad' w' H' => by
      rw [hwk]
      exact hag _ w' ⟨k + 1, V, b', bad', rfl, by omega, H'⟩ (by omega)
    have hzb : (Builtin.zeroCells (Value.bool false).cells (b.length / 64)).toList = (List.replicate (b.length / 64) false).map Value.bool := by
      rw [List.map_replicate]; exact zeroCells_one _ _
    refine ⟨fun z => Ext w8 z, hdr, ?_⟩
    refine ld1Q_i (l := .slc) (o := 1) ds (fun z hz => (H8.vf.ext hz)) rfl ?_
    refine ld1Q_i (l := .slc) (o := 2) bs (fun z hz => (H8.vf.ext hz)) rfl ?_
    refine ldVQ_i (n := 4) (ls := lO) 0 (fun z hz => v8.ext hz) (Nat.le_refl 4) ?_
    have hdb : (ds.len : Int) = (b.length : Int) := by rw [hdsl, H.len]
    have hbb : (bs.len : Int) = ((b.length / 64 : Nat) : Int) := by rw [hbsl, H.len]
    rw [hdb, hbb]
    have H8d := H8.ext hdr
    refine ⟨?_, ?_⟩
    · refine makeB_i (by omega) (by omega) fun s1 w9 e9 o9 => ?_
      rw [Int.toNat_natCast] at o9
      refine more_i (hdr.trans e9) ?_
      refine make_i (by omega) (by omega) fun s2 w10 e10 o10 hl10 => ?_
      rw [Int.toNat_natCast, hzb] at o10
      refine more_i ((hdr.trans e9).trans e10) ?_
      refine box_i fun gp w11 e11 hgp v11 => ?_
      refine more_i (((hdr.trans e9).trans e10).trans e11) ?_
      have s9 := e9.size
      have s10 := e10.size
      have eu := (e9.trans e10).trans e11
      refine trueTurn_s (s1 := s1) (s2 := s2) (H8d.ext eu) eu H8d ho3 (by omega) v11 ((Own.ext o9 e10).ext e11) ((o10.ext e11).base (by omega)) (by omega) (fun j hj hc => by have := (Own.inB o9 hj).2; have := (o10.inB hc).1; omega) (fun j hj => ?_) next
      rcases hj with hj | hj
      · have := (Own.inB o9 hj).2; omega
      · have := (o10.inB hj).2; omega
    · refine make_i (by omega) (by omega) fun s2 w9 e9 o9 hl9 => ?_
      rw [Int.toNat_natCast, hzb] at o9
      refine more_i (hdr.trans e9) ?_
      refine makeB_i (by omega) (by omega) fun s1 w10 e10 o10 => ?_
      rw [Int.toNat_natCast] at o10
      refine more_i ((hdr.trans e9).trans e10) ?_
      refine box_i fun gp w11 e11 hgp v11 => ?_
      refine more_i (((hdr.trans e9).trans e10).trans e11) ?_
      have s9 := e9.size
      have s10 := e10.size
      have eu := (e9.trans e10).trans e11
      refine trueTurn_s (s1 := s1) (s2 := s2) (H8d.ext eu) eu H8d ho3 (by omega) v11 ((Own.ext o10 e11).base (by omega)) ((o9.ext e10).ext e11) (by omega) (fun j hj hc => by have := (Own.inB o10 hj).1; have := (o9.inB hc).2; omega) (fun j hj => ?_) next
      rcases hj with hj | hj
      · have := (Own.inB o10 hj).2; omega
      · have := (o9.inB hj).2; omega
  refine ld1_i (l := .int .i64) (o := 1) o.i v8 rfl ?_
  refine vRead_s H8.v H8.p x1 ht3 H8.ok hook.i fun rb w9 V' f9 P9 V9 hpV hallV orb _ => ?_
  obtain ⟨okV, a1, a2⟩ := vread_ok x1.q (fun p h1 h2 h3 => VX.F_len x1 p h1 h2 h3) (F := X.F b bad) (R := V.pure) H8.ok o.i
  generalize hRR : vread (X.F b bad) X.q V.pure o.i = R at hpV orb okV a1 a2
  have htr : V'.trc.map (·.2) = R.2.2.trace := congrArg Vr.trace hpV
  have hnot : ∀ j, (j = X.gd ∨ V.mut X j) → j ≠ g2 ∧ j ≠ gs ∧ j ≠ gf ∧ ¬ r.inB j := fun j hj => by
    rcases hj with rfl | hj
    · exact H8.lo _ (.inl rfl)
    · exact H8.s2 j (.inl hj)
  have hg2' := H8.vd.lt
  have hgs' := H8.vs.lt
  have hgf' := H8.vf.lt
  have H9 : TrueAt w3 w9 B L y X V' b bad g2 gs gf r ds bs := by
    refine ⟨P9, H8.len, V9, ?_, H8.vd.fr f9 fun hc => (hnot _ hc).1 rfl, H8.vs.fr f9 fun hc => (hnot _ hc).2.1 rfl, H8.vf.fr f9 fun hc => (hnot _ hc).2.2.1 rfl, H8.root.fr f9 fun a ha' hc => (hnot _ hc).2.2.2 ⟨a, ha', rfl⟩, fun j hj => ?_, H8.lo, fun j hj => Nat.lt_of_lt_of_le (H8.rlt j hj) f9.size⟩
    · rw [show knP V'.kn = R.2.2.known from congrArg Vr.known hpV]; exact okV
    · rcases hallV j hj with h | h | h
      · exact H8.s2 j (.inl h)
      · exact H8.s2 j (.inr h)
      · exact ⟨by omega, by omega, by omega, fun hc => by have := H8.rlt j hc; omega⟩
  have hgo9 : Var w9 go o.cells := v8.fr f9 fun hc => by
    rcases hc with hc | hc
    · have := H.p.in (.inl hc : L.inD X.gd go); omega
    · have := (H.v.lo _ hc).2; omega
  have next : ∀ w', Ext w9 w' → again (IntKind.wrap .i64 ((k : Int) + 1)) w' := fun w' e => by
    rw [hwk]
    exact hag _ w' ⟨k + 1, V', b, bad, rfl, by omega, H9.ext e⟩ (by omega)
  have hrl := OwnB.len orb
  by_cases hz0 : R.2.1 = 0
  · obtain ⟨n, hin, hn, hway, hr0⟩ := a2 hz0
    rw [hz0]
    refine cond_i (fun h => by cases h) (fun _ => ?_)
    have hdr := Ext.drew w9
    rw [← htr] at hway hr0
    have hn' : n < y.x.c 0 := by rw [← hqx]; exact hn
    have hvl := hway.len
    rw [List.length_map, hqx] at hvl
    have hrl2 : R.1.length = y.x.bN := by
      have := hway.each _ (List.mem_of_getElem? hr0)
      rwa [hqx] at this
    refine ⟨fun z => Ext w9 z, hdr, ?_⟩
    refine ld1Q_i (l := .int .i64) (o := 1) y.alg (fun z hz => (H9.vd.ext hz)) rfl ?_
    refine ld1Q_i (l := .slc) (o := 7) y.salt.1 (fun z hz => (H9.vd.ext hz)) rfl ?_
    refine ldShQ_i (x := y.x) (fun z hz => H9.vs.ext hz) ?_
    refine ld1Q_i (l := .int .i64) (o := 1) o.i (fun z hz => hgo9.ext hz) rfl ?_
    refine ld1Q_i (l := .slc) (o := 8) r (fun z hz => (H9.vd.ext hz)) rfl ?_
    have H9d := H9.ext hdr
    refine vTrace_s H9d.v (by omega) fun tv w10 xs e10 px hxs => ?_
    have e910 := hdr.trans e10
    refine more_i e910 ?_
    have hxl : xs.length = V'.trc.length := by have := congrArg List.length hxs; rwa [List.length_map, List.length_map] at this
    have hxb : ∀ u ∈ xs, u.2.length = y.x.bN := fun u hu => by
      have : u.2 ∈ V'.trc.map (·.2) := by rw [← hxs]; exact List.mem_map.2 ⟨u, hu, rfl⟩
      have := hway.each _ this
      rwa [hqx] at this
    have H10 := H9.ext e910
    have hyw := hy.ext (hW.trans H10.p.e0)
    refine climb_s (salt := y.salt.2) (root := y.root) (xs := xs) (x := y.x) (ht3.ext H10.p.e0) hyw.salt px H10.root hook.i (by omega) (fun u hu => by rw [hxb u hu]; omega) fun w11 e11 => ?_
    have e911 := e910.trans e11
    refine more_i e911 ?_
    have hask : askErr X.q.a X.q.salt X.q.x = 0 := by rw [R1.qe]; exact ha
    have hcl := way_climb x1.q hask hn hway
    rw [R1.qe] at hcl
    rw [hxs, hin, hcl]
    refine cond_i (fun h => by cases h) (fun _ => ?_)
    have v9 : Var w9 g y.cells := v3.ext H9.p.e0
    refine ldVQ_i (n := 5) (ls := lV) 0 (fun z hz => v9.ext hz) (Nat.le_refl 5) ?_
    refine ld1Q_i (l := .int .i64) (o := 1) o.i (fun z hz => hgo9.ext hz) rfl ?_
    have H11 := H9.ext e911
    refine vTrace_s H11.v (by omega) fun tv2 w12 ys e12 py hys => ?_
    have e912 := e911.trans e12
    refine more_i e912 ?_
    have H12 := H9.ext e912
    rw [hin]
    refine same_s (y := y) (X := X) (n := n) (bs := R.1) (xs := ys) (hy.ext (hW.trans H12.p.e0)) (ht3.ext H12.p.e0) ha hd1500 R1 hn' (Own.ext orb e912).rd py (by rw [hys]; exact hway) (by rw [hys]; exact hr0) fun w13 e13 => ?_
    refine cond_i (fun h => by cases h) (fun _ => ?_)
    exact next w13 (e912.trans e13)
  · obtain ⟨b1, b2⟩ := a1 hz0
    refine cond_i (fun _ => ?_) (fun h => absurd (bne_eq_false_iff_eq.1 h) hz0)
    rw [b1] at hrl
    have htl : V'.trc.length = 0 := by
      have := congrArg List.length htr
      rw [List.length_map, b2] at this
      exact this
    refine joinOr (x := false) (fun w10 e10 => ?_) fun J hJ _ => ?_
    · refine cond_i (fun h => ?_) (fun _ => next w10 e10)
      rw [hrl] at h
      simp at h
    · refine vTrace_s H9.v (by omega) fun tv w10 xs e10 px hxs => ?_
      have hxl := px.len
      have : xs.length = 0 := by have := congrArg List.length hxs; rw [List.length_map, List.length_map] at this; omega
      rw [hxl, this]
      exact hJ _ e10
set_option maxHeartbeats 4000000 in
theorem VerityTrue_s {p1 : Sl} {os : List VOp} {K : Bool → World → Prop} {w : World} (hy : y.Ok w) (hp : VOpsIn w p1 os) (ht1 : Tabs w) (ht2 : Go.Proofs.YteopoodhclljjaaGreatDoor.L.Tabs w) (hK : ∀ w', Ext w w' → K true w') :
    callS Tryz.prog 4 #[.agg y.cells.toArray, .slice p1.a p1.len p1.cap] [.one .bool] K w := by
  refine f4_ok (p0_0 := y.alg) (p0_1 := y.blk) (p0_2 := y.mode) (p0_3 := y.salt.1) (p0_4 := y.data.1) ?_
  unfold f4
  have ht : Tabs9 w := ⟨ht1, ht2⟩
  have hsl := Bts.len hy.salt
  have hdl := Bts.len hy.data
  refine box_i fun g w1 e1 hg v1 => ?_
  have v1 : Var w1 g y.cells := v1
  refine anchor17_s (ht.ext e1) fun w2 e2 => ?_
  refine cond_i (fun h => by cases h) (fun _ => ?_)
  have E2 := e1.trans e2
  have v2 := v1.ext e2
  refine ldSV_i v2 ?_
  refine seedSmallV_s hsl hdl fun w3 e3 => ?_
  have E3 := E2.trans e3
  have v3 := v2.ext e3
  refine cond_i (fun _ => hK w3 E3) (fun h => ?_)
  simp only [Bool.or_eq_false_iff, Bool.not_eq_false', decide_eq_false_iff_not] at h
  obtain ⟨hsm, hp60⟩ := h
  obtain ⟨hs64, hd1500, hb4096⟩ := small_of hsm
  have ht3 := ht.ext E3
  refine seed_i (R := fun x26 r14 x27 w => _) v3 (hy.ext E3) ht3 (Fr.refl _ w3) hd1500 (fun _ g2 w4 e4 => ?_) fun ha gd L r g2 B w4 e4 hin hP hB1 hB2 hr hg2 vd hrd => ?_
  · exact cond_i (fun _ => hK w4 (E3.trans e4)) (fun h => by cases h)
  refine cond_i (fun h => by cases h) (fun _ => ?_)
  refine ldD_i vd ?_
  have v4 := v3.ext e4
  have E4 := E3.trans e4
  refine ld1_i (l := .int .i64) (o := 2) y.mode v4 rfl ?_
  refine vOpen_s (gd := gd) (d := y.d r) (mode := y.mode) (nm := ByteArray.mk #[112]) rfl (SV.dOk (hy.ext E4) ha hd1500 hr) (SV.dSm ha hd1500 r) (fun h w5 e5 => ?_) fun hop gr m d' w5 e5 h5 hd' => ?_
  · rw [SV.openOk ha hd1500] at h
    refine cond_i (fun _ => ?_) (fun h => by cases h)
    have E5 := E4.trans e5
    have v5 := v4.ext e5
    refine ld1_i (l := .int .i64) (o := 2) y.mode v5 rfl ?_
    refine joinOr (x := decide (y.mode > 1)) (fun w6 e6 => ?_) fun J hJ _ => ld1_i (l := .int .i64) (o := 2) y.mode v5 rfl (hJ _ (Fr.refl _ _))
    have : (decide (y.mode < 0) || decide (y.mode > 1)) = true := by
      cases h1 : decide (y.mode < 0) <;> cases h2 : decide (y.mode > 1) <;> rw [h1, h2] at h <;> simp_all
    rw [this]
    exact hK w6 (E5.trans e6)
  refine cond_i (fun h => by cases h) (fun _ => ?_)
  have hdr := Ext.drew w5
  have vd5 := vd.ext e5
  have hg2l := vd.lt
  refine ⟨fun z => Ext w5 z, hdr, ?_⟩
  refine ld1Q_i (l := .int .i64) (o := 2) (y.d r).size (fun z hz => vd5.ext hz) rfl ?_
  refine ld1Q_i (l := .int .i64) (o := 3) (y.d r).blk (fun z hz => vd5.ext hz) rfl ?_
  refine ld1Q_i (l := .int .i64) (o := 1) (y.d r).alg (fun z hz => vd5.ext hz) rfl ?_
  obtain ⟨X, hX⟩ : ∃ X : VX, X = ⟨gr, gd, d', y.mode⟩ := ⟨_, rfl⟩
  have R1 : Rdy y X := by rw [hX]; exact hd'
  have hXgd : X.gd = gd := by rw [hX]
  have hXgr : X.gr = gr := by rw [hX]
  have h5X : VrAt w5 w4.heap.size X (VM.fresh m) := by rw [hX]; exact h5
  rw [← hXgd] at hP hrd
  rw [← hXgd, ← hXgr]
  have s5 := e5.size
  have sd := hdr.size
  have body : ∀ gs w6, Ext w5 w6 → w5.heap.size ≤ gs → Var w6 gs (shC y.x) → f4_t1 (some (at_ X.gd 0)) p1 K (some (at_ X.gr 0)) (at_ g2 0) (at_ gs 0) (at_ g 0) w6 := fun gs w6 e6 hgs vs => by
    have s6 := e6.size
    refine true_t1 (m := m) (L := L) (B := B) (r := r) E3 hy hp (by omega) ht3 ha hd1500 R1 v3 ((hP.ext e5).ext e6) ((h5X.base hB2).ext e6) (by omega) hB1 (vd5.ext e6) hg2 vs (by omega) ((hr.ext e5).ext e6) hrd (fun k hk => ?_) hK
    have := h5X.in hk
    omega
  refine ⟨?_, ?_⟩
  · refine rdsz_s ?_
    refine more_i hdr ?_
    refine alloc_i fun gs w6 e6 hgs v6 => ?_
    refine more_i (hdr.trans e6) ?_
    refine stSh_i (x := y.x) v6 rfl fun w7 f7 v7 => ?_
    exact body gs w7 (Fr.own1 (hdr.trans e6) f7 (by omega)) (by omega) v7
  · refine alloc_i fun gs w6 e6 hgs v6 => ?_
    refine more_i (hdr.trans e6) ?_
    refine rdsz_s ?_
    refine more_i (hdr.trans e6) ?_
    refine stSh_i (x := y.x) v6 rfl fun w7 f7 v7 => ?_
    exact body gs w7 (Fr.own1 (hdr.trans e6) f7 (by omega)) (by omega) v7
end
end Go.Proofs.YteopoodhclljjaaGreatDoor
