/- Layer 17 (verity): two readers of one drive; the drive, changed; lists of blocks compared. / Layer 17 (verity): the law VerityOrder. -/
import Derived.Test.YteopoodhclljjaaDoorG17j
import Derived.Test.YteopoodhclljjaaDoorG17k
set_option linter.unusedSimpArgs false
set_option linter.unusedVariables false
/-! Ver17f -/
namespace Go.Proofs.YteopoodhclljjaaDoor
open Go Go.Eng
open Go.S (Pl Kn Vq Vr klook vfirst vblk vput)
section
variable {y : SV} {X X2 : VX} {V V2 : VM} {w0 w w' : World} {B gd : Nat} {L : Lay} {b : List UInt8} {bad : Int → Bool}
def VM.all (V : VM) (X : VX) (k : Nat) : Prop := V.mut X k ∨ V.imm X k
/-- Another reader, behind a read. -/
theorem VrAt.other (h : VrAt w B X2 V2) (hP : P1 w0 w B gd L b bad) (hf : Fr (fun k => k = gd ∨ V.mut X k) w w') (hs : ∀ k, V2.all X2 k → ¬ V.all X k) : VrAt w' B X2 V2 := h.fr hf fun k hk hc => by
  rcases hc with hc | hc
  · have := (h.in hk).1; have := hP.gdlt; omega
  · exact hs k hk (.inl hc)
theorem sep_step {V' : VM} (h : VrAt w B X2 V2) (hs : ∀ k, V2.all X2 k → ¬ V.all X k) (hn : ∀ k, V'.mut X k ∨ V'.imm X k → V.mut X k ∨ V.imm X k ∨ w.heap.size ≤ k) : ∀ k, V2.all X2 k → ¬ V'.all X k := fun k hk hc => by
  rcases hn k hc with h1 | h1 | h1
  · exact hs k hk (.inl h1)
  · exact hs k hk (.inr h1)
  · have := (h.in hk).2; omega
theorem VrAt.drv (h : VrAt w B X V) (hP : P1 w0 w B gd L b bad) (hf : Fr (L.inD gd) w w') : VrAt w' B X V := h.fr hf fun k hk hc => by
  have := (h.in hk).1; have := hP.lo k hc; omega
theorem sep_symm (hs : ∀ k, V2.all X2 k → ¬ V.all X k) : ∀ k, V.all X k → ¬ V2.all X2 k := fun k h1 h2 => hs k h2 h1
theorem pTurn_s {name : ByteArray} {off : Int} {p : Sl} {xs : List UInt8} {K : Bool → World → Prop} (h : P1 w0 w B gd L b bad) (hn : name = str pn) (ho : S.I64 off) (hp : Bts w p xs) (hbl : xs.length ≤ 68719476736) (hsep : xs ≠ [] → ∀ a, p.a = some a → ¬ L.inD gd a.block)
    (hK : ∀ w', Fr (L.inD gd) w w' → P1 w0 w' B gd L (if S.within off xs.length b.length = true then S.xorAt b xs off.toNat else b) bad → K (S.within off xs.length b.length) w') :
    callS Tryd.prog 18 #[.pointer (some (at_ gd 0)), .string name, .int .i64 off, .slice p.a p.len p.cap] [.one .bool] K w := by
  subst hn
  obtain ⟨c, n, h1⟩ := h.at_
  refine dTurn_s h1 ho hp hbl hsep fun w' f d => ?_
  rw [str_toList, S.turn_one] at d ⊢
  have e0 : Ext w0 w' := Ext.own h.e0 f fun k hk => (h.lo k hk).1
  by_cases hw : S.within off xs.length b.length = true
  · rw [if_pos hw] at d ⊢
    have := hK w' f (by rw [if_pos hw]; exact ⟨⟨c, n, d⟩, h.lo, e0⟩)
    rwa [hw] at this
  · rw [if_neg hw] at d ⊢
    have := hK w' f (by rw [if_neg hw]; exact ⟨⟨c, n, d⟩, h.lo, e0⟩)
    have hf : S.within off xs.length b.length = false := by simpa using hw
    rwa [hf] at this
def badOn (b : List UInt8) (s : Int) : Bool := !decide (s < 0 ∨ s ≥ (b.length : Int) / 64)
theorem pBad_s {name : ByteArray} {s : Int} {on : Bool} {K : Bool → World → Prop} (h : P1 w0 w B gd L b bad) (hn : name = str pn) (ho : S.I64 s)
    (hK : ∀ w', Fr (L.inD gd) w w' → P1 w0 w' B gd L b (if badOn b s = true then fun k => if k = s then on else bad k else bad) → K (badOn b s) w') :
    callS Tryd.prog 17 #[.pointer (some (at_ gd 0)), .string name, .int .i64 s, .bool on] [.one .bool] K w := by
  subst hn
  obtain ⟨c, n, h1⟩ := h.at_
  refine dBad_s h1 ho fun w' f d => ?_
  rw [str_toList, S.badS_one] at d ⊢
  have e0 : Ext w0 w' := Ext.own h.e0 f fun k hk => (h.lo k hk).1
  by_cases hw : s < 0 ∨ s ≥ (b.length : Int) / 64
  · have hb : badOn b s = false := by unfold badOn; rw [decide_eq_true hw]; rfl
    rw [if_pos hw] at d ⊢
    have := hK w' f (by rw [hb]; exact ⟨⟨c, n, d⟩, h.lo, e0⟩)
    rwa [hb] at this
  · have hb : badOn b s = true := by unfold badOn; rw [decide_eq_false hw]; rfl
    rw [if_neg hw] at d ⊢
    have := hK w' f (by rw [hb]; exact ⟨⟨c, n, d⟩, h.lo, e0⟩)
    rwa [hb] at this
theorem bytes_s {p0 p1 : Sl} {xs ys : List (Sl × List UInt8)} {K : Bool → World → Prop} {w : World} (hx : Parts w p0 xs) (hy : Parts w p1 ys) (hl : xs.length ≤ 1000000) (hK : ∀ w', Ext w w' → K (decide (xs.map (·.2) = ys.map (·.2))) w') :
    callS Tryd.prog 12 #[.slice p0.a p0.len p0.cap, .slice p1.a p1.len p1.cap] [.one .bool] K w := by
  refine f12_ok ?_
  unfold f12
  have hxl := hx.len
  have hyl := hy.len
  refine cond_i (fun h => ?_) (fun h => ?_)
  · have hne : xs.length ≠ ys.length := by
      have : (p0.len : Int) ≠ (p1.len : Int) := bne_iff_ne.1 h
      omega
    have := hK w (Fr.refl _ _)
    rwa [decide_eq_false (fun he => hne (by have := congrArg List.length he; simpa using this))] at this
  have hle : xs.length = ys.length := by
    have : (p0.len : Int) = (p1.len : Int) := bne_eq_false_iff_eq.1 h
    omega
  refine loop_i (fun (x : Int) w' => ∃ k : Nat, x = k ∧ k ≤ xs.length ∧ Ext w w' ∧ (xs.map (·.2)).take k = (ys.map (·.2)).take k) (fun x _ => xs.length - x.toNat) ⟨0, rfl, Nat.zero_le _, Fr.refl _ _, rfl⟩ ?_
  rintro _ w1 again ⟨k, rfl, hk, e1, heq⟩ hag
  refine cond_i (fun hlt => ?_) (fun hge => ?_)
  · have hlt : k < xs.length := by have : (k : Int) < (p0.len : Int) := of_decide_eq_true hlt
                                   omega
    have hly : k < ys.length := by omega
    have hx1 := hx.ext e1
    have hy1 := hy.ext e1
    refine elem_i (l := .slc) (x := (xs[k]'hlt).1) hx1.rd (by omega) (by omega) (by rw [Int.toNat_natCast]; exact part_get hx1 hlt) ?_
    have hd := Ext.drew w1
    refine ⟨fun u => Ext w1 u, hd, ?_⟩
    have mx := List.getElem_mem hlt
    have my := List.getElem_mem hly
    have gx : (xs.map (·.2))[k]? = some (xs[k]'hlt).2 := by simp [hlt]
    have gy : (ys.map (·.2))[k]? = some (ys[k]'hly).2 := by simp [hly]
    refine b2sQ_i (fun u hu => (hx1.each _ mx).ext hu) ?_
    obtain ⟨ay, hay⟩ := hy1.rd.some (by omega)
    refine elemQ_i (l := .slc) (x := (ys[k]'hly).1) hay (fun u hu => (hy1.ext hu).rd) (by omega) (by omega) (by rw [Int.toNat_natCast]; exact part_get hy1 hly) ?_
    refine b2sQ_i (fun u hu => (hy1.each _ my).ext hu) ?_
    rw [str_toList, str_toList]
    generalize xs[k]'hlt = u at gx
    generalize ys[k]'hly = v at gy
    refine cond_i (fun h => ?_) (fun h => ?_)
    · have hne : u.2 ≠ v.2 := by simpa using h
      have := hK _ (e1.trans hd)
      rwa [decide_eq_false (fun he => hne (by rw [he, gy] at gx; exact (Option.some.inj gx).symm))] at this
    · have he : u.2 = v.2 := by simpa using h
      have hw : IntKind.wrap .i64 ((k : Int) + 1) = ((k + 1 : Nat) : Int) := wrap_nat (n := k + 1) (by omega)
      rw [hw]
      refine hag _ _ ⟨k + 1, rfl, by omega, e1.trans hd, ?_⟩ (by omega)
      rw [List.take_add_one, List.take_add_one, heq, gx, gy, he]
  · have hge : k = xs.length := by have : ¬ (k : Int) < (p0.len : Int) := of_decide_eq_false hge
                                   omega
    subst hge
    rw [List.take_of_length_le (by simp), List.take_of_length_le (by simp [hle])] at heq
    have := hK w1 e1
    rwa [decide_eq_true heq] at this
end
end Go.Proofs.YteopoodhclljjaaDoor

/-! Law17b -/
namespace Go.Proofs.YteopoodhclljjaaDoor
open Go Go.Eng
open Go.S (Pl Kn Vq Vr klook vfirst vblk vput)
section
variable {y : SV}
/-- Two readers of one drive that has the seed's bytes. -/
structure TwoR (w0 w : World) (B : Nat) (y : SV) (L : Lay) (X1 X2 : VX) (V1 V2 : VM) : Prop where
  p : P1 w0 w B X1.gd L y.part (fun _ => false)
  gd : X2.gd = X1.gd
  r1 : GoodR w B y X1 V1
  r2 : GoodR w B y X2 V2
  sep : ∀ k, V2.all X2 k → ¬ V1.all X1 k
theorem TwoR.swap {w0 w : World} {B : Nat} {L : Lay} {X1 X2 : VX} {V1 V2 : VM} (h : TwoR w0 w B y L X1 X2 V1 V2) : TwoR w0 w B y L X2 X1 V2 V1 :=
  ⟨by rw [h.gd]; exact h.p, h.gd.symm, h.r2, h.r1, sep_symm h.sep⟩
theorem TwoR.ext {w0 w w' : World} {B : Nat} {L : Lay} {X1 X2 : VX} {V1 V2 : VM} (h : TwoR w0 w B y L X1 X2 V1 V2) (e : Ext w w') : TwoR w0 w' B y L X1 X2 V1 V2 := ⟨h.p.ext e, h.gd, h.r1.ext e, h.r2.ext e, h.sep⟩
theorem readTwo_s {w0 w : World} {B : Nat} {L : Lay} {X1 X2 : VX} {V1 V2 : VM} {i : Int} {K : Sl → Int → World → Prop} (h : TwoR w0 w B y L X1 X2 V1 V2) (ha : y.ask = 0) (hd : y.data.2.length ≤ 1500) (ht : Tabs9 w0) (hi : S.I64 i)
    (hK : ∀ (v : Sl) w' V1', TwoR w0 w' B y L X1 X2 V1' V2 → Fr (fun k => k = X1.gd ∨ V1.mut X1 k) w w' → V1'.trc.map (·.2) = fairT y i → OwnB w' w.heap.size v (fairB y i) → K v (fairE y i) w') :
    callS Tryd.prog 11 #[.pointer (some (at_ X1.gr 0)), .int .i64 i] [.one .slc, .one (.int .i64)] K w := by
  refine vReadF_s h.r1 h.p ha hd ht hi fun v w' V' f P G hn htr _ o _ => ?_
  have h2 := h.r2.at_.other (V := V1) (X := X1) h.p f h.sep
  exact hK v w' V' ⟨P, h.gd, G, ⟨h2, h.r2.rdy, h.r2.ok, h.r2.fair, h.r2.whole⟩, sep_step h.r2.at_ h.sep hn⟩ f htr o
set_option maxHeartbeats 1000000 in
theorem VerityOrder_s {p1 p2 : Sl} {pa pb : List Int} {i : Int} {K : Bool → World → Prop} {w : World} (hy : y.Ok w) (hp : Rd w p1 1 (pa.map (Value.int .i64)) ∧ ∀ x ∈ pa, -9223372036854775808 ≤ x ∧ x ≤ 9223372036854775807) (hq : Rd w p2 1 (pb.map (Value.int .i64)) ∧ ∀ x ∈ pb, -9223372036854775808 ≤ x ∧ x ≤ 9223372036854775807) (hi : -9223372036854775808 ≤ i ∧ i ≤ 9223372036854775807) (ht1 : Tabs w) (ht2 : L.Tabs w) (hK : ∀ w', Ext w w' → K true w') :
    callS Tryd.prog 3 #[.agg y.cells.toArray, .slice p1.a p1.len p1.cap, .slice p2.a p2.len p2.cap, .int .i64 i] [.one .bool] K w := by
  refine f3_ok (p0_0 := y.alg) (p0_1 := y.blk) (p0_2 := y.mode) (p0_3 := y.salt.1) (p0_4 := y.data.1) ?_
  unfold f3
  have ht : Tabs9 w := ⟨ht1, ht2⟩
  have hsl := Bts.len hy.salt
  have hdl := Bts.len hy.data
  have hpl : p1.len = pa.length := by have := hp.1.len; rw [List.length_map] at this; omega
  have hql : p2.len = pb.length := by have := hq.1.len; rw [List.length_map] at this; omega
  refine box_i fun g w1 e1 hg v1 => ?_
  have v1 : Var w1 g y.cells := v1
  refine anchor17_s (ht.ext e1) fun w2 e2 => ?_
  refine cond_i (fun h => by cases h) (fun _ => ?_)
  have E2 := e1.trans e2
  have v2 := v1.ext e2
  refine ldSV_i v2 ?_
  refine seedSmallV_s hsl hdl fun w3 e3 => ?_
  have E3 := E2.trans e3
  have v3 := v2.ext e3
  refine cond_i (fun _ => hK w3 E3) (fun h => ?_)
  simp only [Bool.or_eq_false_iff, Bool.not_eq_false', decide_eq_false_iff_not] at h
  obtain ⟨⟨hsm, hp30⟩, hq30⟩ := h
  obtain ⟨hs64, hd1500, hb4096⟩ := small_of hsm
  have ht3 := ht.ext E3
  refine seed_i (R := fun x26 r14 x27 w => _) v3 (hy.ext E3) ht3 (Fr.refl _ w3) hd1500 (fun _ g2 w4 e4 => ?_) fun ha gd L r g2 B w4 e4 hin hP hB1 hB2 hr hg2 vd => ?_
  · exact cond_i (fun _ => hK w4 (E3.trans e4)) (fun h => by cases h)
  refine cond_i (fun h => by cases h) (fun _ => ?_)
  refine ldD_i vd ?_
  refine vOpen_s (gd := gd) (d := y.d r) (mode := 0) (nm := ByteArray.mk #[112]) rfl (SV.dOk ((hy.ext E3).ext e4) ha hd1500 hr) (SV.dSm ha hd1500 r) (fun h => by rw [SV.openOk ha hd1500] at h; simp at h) fun _ gr m d' w5 e5 h5 hd' => ?_
  refine ldD_i (vd.ext e5) ?_
  refine vOpen_s (gd := gd) (d := y.d r) (mode := 1) (nm := ByteArray.mk #[112]) rfl (SV.dOk (((hy.ext E3).ext e4).ext e5) ha hd1500 (hr.ext e5)) (SV.dSm ha hd1500 r) (fun h => by rw [SV.openOk ha hd1500] at h; simp at h) fun _ gr2 m2 d2 w6 e6 h6 hd2 => ?_
  have hP6 := (hP.ext e5).ext e6
  obtain ⟨X1, hX1⟩ : ∃ X : VX, X = ⟨gr, gd, d', 0⟩ := ⟨_, rfl⟩
  obtain ⟨X2, hX2⟩ : ∃ X : VX, X = ⟨gr2, gd, d2, 1⟩ := ⟨_, rfl⟩
  have s5 := e5.size
  have hT : TwoR w3 w6 B y L X1 X2 (VM.fresh m) (VM.fresh m2) := by
    subst hX1; subst hX2
    refine ⟨hP6, rfl, (GoodR.new (h5.base hB2) hd').ext e6, GoodR.new (h6.base (by omega)) hd2, fun k hk hc => ?_⟩
    have q1 := (h6.in hk).1
    have q2 := (h5.in hc).2
    omega
  rw [show gr = X1.gr by rw [hX1], show gr2 = X2.gr by rw [hX2]]
  refine joinOr (x := false) (fun w7 e7 => ?_) fun J hJ _ => ptrEq_i (hJ _ (Fr.refl _ _))
  refine joinOr (x := false) (fun w8 e8 => ?_) fun J hJ _ => ptrEq_i (hJ _ (Fr.refl _ _))
  refine cond_i (fun h => by cases h) (fun _ => ?_)
  have hT8 := (hT.ext e7).ext e8
  refine loop_i (fun (x : Int) w' => ∃ (k : Nat) (V1 : VM), x = k ∧ k ≤ pa.length ∧ TwoR w3 w' B y L X1 X2 V1 (VM.fresh m2)) (fun x _ => pa.length - x.toNat) ⟨0, VM.fresh m, rfl, Nat.zero_le _, hT8⟩ ?_
  rintro _ w9 again ⟨k, V1, rfl, hk, T9⟩ hag
  have E9 := E3.trans T9.p.e0
  refine cond_i (fun hlt => ?_) (fun hge => ?_)
  · have hlt : k < pa.length := by have : (k : Int) < (p1.len : Int) := of_decide_eq_true hlt
                                   omega
    refine elem_i (l := .int .i64) (x := pa[k]'hlt) (hp.1.ext E9) (by omega) (by omega) (by rw [Int.toNat_natCast, List.getElem?_map, List.getElem?_eq_getElem hlt]; rfl) ?_
    refine readTwo_s T9 ha hd1500 ht3 (hp.2 _ (List.getElem_mem hlt)) fun rb w10 V1' T10 _ _ _ => ?_
    have hw : IntKind.wrap .i64 ((k : Int) + 1) = ((k + 1 : Nat) : Int) := wrap_nat (n := k + 1) (by omega)
    rw [hw]
    exact hag _ w10 ⟨k + 1, V1', rfl, by omega, T10⟩ (by omega)
  clear hag hge
  refine loop_i (fun (x : Int) w' => ∃ (k : Nat) (V2 : VM), x = k ∧ k ≤ pb.length ∧ TwoR w3 w' B y L X1 X2 V1 V2) (fun x _ => pb.length - x.toNat) ⟨0, VM.fresh m2, rfl, Nat.zero_le _, T9⟩ ?_
  rintro _ w10 again ⟨k2, V2, rfl, hk2, T10⟩ hag
  have E10 := E3.trans T10.p.e0
  refine cond_i (fun hlt => ?_) (fun hge => ?_)
  · have hlt : k2 < pb.length := by have : (k2 : Int) < (p2.len : Int) := of_decide_eq_true hlt
                                    omega
    refine elem_i (l := .int .i64) (x := pb[k2]'hlt) (hq.1.ext E10) (by omega) (by omega) (by rw [Int.toNat_natCast, List.getElem?_map, List.getElem?_eq_getElem hlt]; rfl) ?_
    refine readTwo_s T10.swap ha hd1500 ht3 (hq.2 _ (List.getElem_mem hlt)) fun rb w11 V2' T11 _ _ _ => ?_
    have hw : IntKind.wrap .i64 ((k2 : Int) + 1) = ((k2 + 1 : Nat) : Int) := wrap_nat (n := k2 + 1) (by omega)
    rw [hw]
    exact hag _ w11 ⟨k2 + 1, V2', rfl, by omega, T11.swap⟩ (by omega)
  clear hag hge
  refine readTwo_s T10 ha hd1500 ht3 hi fun rm w11 V1' T11 f11 tr1 o1 => ?_
  refine readTwo_s T11.swap ha hd1500 ht3 hi fun rn w12 V2' T12 f12 tr2 o2 => ?_
  have T12 := T12.swap
  have hgd : X2.gd < w10.heap.size := by rw [T10.gd]; exact T10.p.in (.inl rfl)
  have hV2 : ∀ k, V2.mut X2 k → k < w10.heap.size := fun k hk => (T10.r2.at_.lo k hk).2
  have o1' := o1.fr f12 fun a ha hc => by
    have := (o1.lt ha).1
    rcases hc with hc | hc
    · omega
    · have := hV2 _ hc; omega
  refine cond_i (fun _ => ?_) (fun h => by simp at h)
  refine b2s_i o1'.rd (b2s_i o2.rd ?_)
  rw [str_toList, beq_self_eq_true]
  have htl1 : V1'.trc.length ≤ 36 := by
    have := congrArg List.length tr1
    rw [List.length_map] at this
    rw [this]
    unfold fairT
    have hh := S.Shp.h_le (SV.xok ha)
    split
    · rw [S.Shp.onPath_len]; omega
    · simp
  have htl2 : V2'.trc.length ≤ 36 := by
    have h1 := congrArg List.length tr2
    have h2 := congrArg List.length tr1
    rw [List.length_map] at h1 h2
    omega
  refine joinAnd (x := true) (fun w13 e13 => ?_) fun J hJ _ => ?_
  · exact hK w13 (E3.trans (T12.p.ext e13).e0)
  refine vTrace_s T12.r1.at_ (by omega) fun v1 w13 xs e13 px hxs => ?_
  refine vTrace_s (T12.r2.at_.ext e13) (by omega) fun v2 w14 ys e14 py hys => ?_
  have hxl : xs.length ≤ 36 := by have := congrArg List.length hxs; rw [List.length_map, List.length_map] at this; omega
  refine bytes_s (px.ext e14) py (by omega) fun w15 e15 => ?_
  rw [decide_eq_true (show xs.map (·.2) = ys.map (·.2) by rw [hxs, hys, tr1, tr2])]
  exact hJ _ ((e13.trans e14).trans e15)
end
end Go.Proofs.YteopoodhclljjaaDoor
