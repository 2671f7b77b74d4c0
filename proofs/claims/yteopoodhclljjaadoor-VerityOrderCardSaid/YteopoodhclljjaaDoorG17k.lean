/- Layer 17 (verity): the laws VerityMost and VerityFair. -/
import Derived.Test.YteopoodhclljjaaDoorG17j
set_option linter.unusedSimpArgs false
set_option linter.unusedVariables false
/-! Law17a -/
namespace Go.Proofs.YteopoodhclljjaaDoor
open Go Go.Eng
open Go.S (Pl Kn Vq Vr klook vfirst vblk vput)
section
variable {y : SV}
/-- 'd, x := made(s)', and is there a drive? -/
theorem seed_i {g : Nat} {o1 o2 : Operand} {R : Addr → Option Addr → Bool → World → Prop} {w w0 : World} (v : Var w g y.cells) (hy : y.Ok w) (ht : Tabs9 w0) (e0 : Ext w0 w) (hd : y.data.2.length ≤ 1500)
    (hNil : y.ask ≠ 0 → ∀ g2 w', Ext w w' → R (at_ g2 0) none true w')
    (hOk : y.ask = 0 → ∀ gd L r g2 B w', Ext w w' → (∀ k, L.inD gd k → w.heap.size ≤ k) → P1 w0 w' B gd L y.part (fun _ => false) → w.heap.size ≤ B → B ≤ w'.heap.size → Bts w' r y.root → B ≤ g2 → Var w' g2 (y.d r).cells → R (at_ g2 0) (some (at_ gd 0)) false w') :
    semS Tryd.prog (Instr.loadAt 24 (.pointer (some (at_ g 0)))) (.agg lV) (fun x9 x10 x11 x12 x13 w =>
      callS Tryd.prog 9 #[(.agg #[(.int .i64 x9), (.int .i64 x10), (.int .i64 x11), (.slice x12.a x12.len x12.cap), (.slice x13.a x13.len x13.cap)])] [(.one .ptr), (.agg lD)] (fun r14 r15 r16 r17 r18 r19 r20 r21 r22 r23 r24 r25 w =>
      semS Tryd.prog (Instr.alloc 29 true (.tuple #[])) (.one .adr) (fun x26 w =>
      semU Tryd.prog (Instr.storeAt 29 (.pointer (some x26)) (.agg #[(.int .i64 r15), (.int .i64 r16), (.int .i64 r17), (.int .i64 r18), (.int .i64 r19), (.int .i64 r20), (.string r21), (.slice r22.a r22.len r22.cap), (.slice r23.a r23.len r23.cap), (.slice r24.a r24.len r24.cap), (.slice r25.a r25.len r25.cap)])) (fun w =>
      semS Tryd.prog (binS .eql 27 o1 o2 (.pointer r14) (.pointer none)) (.one .bool) (fun x27 w => R x26 r14 x27 w) w) w) w) w) w := by
  refine ldSV_i v ?_
  refine made_s (y := y) hy ht e0 hd (fun ha w1 e1 => ?_) fun ha gd L r w1 e1 hin hP or => ?_
  · refine alloc_i fun g2 w2 e2 hg2 v2 => ?_
    refine stD_i (d := ⟨0, 0, 0, 0, 0, 0, [], (Sl.nil, []), (Sl.nil, []), (Sl.nil, []), (Sl.nil, [])⟩) v2 rfl fun w3 f3 v3 => ?_
    refine ptrEq_i ?_
    exact hNil ha g2 w3 (e1.trans (Fr.own1 e2 f3 hg2))
  · refine alloc_i fun g2 w2 e2 hg2 v2 => ?_
    refine stD_i (d := y.d r) v2 rfl fun w3 f3 v3 => ?_
    refine ptrEq_i ?_
    have e13 : Ext w1 w3 := Fr.own1 e2 f3 hg2
    exact hOk ha gd L r g2 w1.heap.size w3 (e1.trans e13) hin (hP.ext e13) e1.size e13.size (or.rd.ext e13) hg2 v3
theorem nodup_ne {α : Type} {l : List α} (h : l.Nodup) {i j : Nat} {a b : α} (hi : l[i]? = some a) (hj : l[j]? = some b) (hij : i < j) : a ≠ b := by
  obtain ⟨h1, rfl⟩ := List.getElem?_eq_some_iff.1 hi
  obtain ⟨h2, rfl⟩ := List.getElem?_eq_some_iff.1 hj
  exact List.pairwise_iff_getElem.1 h i j h1 h2 hij
theorem small_of {y : SV} (h : y.small = true) : y.salt.2.length ≤ 64 ∧ y.data.2.length ≤ 1500 ∧ y.blk ≤ 4096 := by
  unfold SV.small at h
  simp only [Bool.and_eq_true, decide_eq_true_eq] at h
  exact ⟨h.1.1, h.1.2, h.2⟩
set_option maxHeartbeats 1000000 in
theorem VerityMost_s {p1 : Sl} {picks : List Int} {K : Bool → World → Prop} {w : World} (hy : y.Ok w) (hp : Rd w p1 1 (picks.map (Value.int .i64)) ∧ ∀ x ∈ picks, -9223372036854775808 ≤ x ∧ x ≤ 9223372036854775807) (ht1 : Tabs w) (ht2 : L.Tabs w) (hK : ∀ w', Ext w w' → K true w') :
    callS Tryd.prog 4 #[.agg y.cells.toArray, .slice p1.a p1.len p1.cap] [.one .bool] K w := by
  refine f4_ok (p0_0 := y.alg) (p0_1 := y.blk) (p0_2 := y.mode) (p0_3 := y.salt.1) (p0_4 := y.data.1) ?_
  unfold f4
  have ht : Tabs9 w := ⟨ht1, ht2⟩
  have hsl := Bts.len hy.salt
  have hdl := Bts.len hy.data
  have hpl : p1.len = picks.length := by have := hp.1.len; rw [List.length_map] at this; omega
  refine box_i fun g w1 e1 hg v1 => ?_
  have v1 : Var w1 g y.cells := v1
  refine anchor17_s (ht.ext e1) fun w2 e2 => ?_
  refine cond_i (fun h => by cases h) (fun _ => ?_)
  have E2 := e1.trans e2
  have v2 := v1.ext e2
  refine ldSV_i v2 ?_
  refine seedSmallV_s hsl hdl fun w3 e3 => ?_
  have E3 := E2.trans e3
  have v3 := v2.ext e3
  refine cond_i (fun _ => hK w3 E3) (fun h => ?_)
  simp only [Bool.or_eq_false_iff, Bool.not_eq_false', decide_eq_false_iff_not] at h
  obtain ⟨hsm, hp60⟩ := h
  obtain ⟨hs64, hd1500, hb4096⟩ := small_of hsm
  have ht3 := ht.ext E3
  refine seed_i (R := fun x26 r14 x27 w => _) v3 (hy.ext E3) ht3 (Fr.refl _ w3) hd1500 (fun _ g2 w4 e4 => ?_) fun ha gd L r g2 B w4 e4 hin hP hB1 hB2 hr hg2 vd => ?_
  · exact cond_i (fun _ => hK w4 (E3.trans e4)) (fun h => by cases h)
  refine cond_i (fun h => by cases h) (fun _ => ?_)
  refine ldD_i vd ?_
  refine vOpen_s (gd := gd) (d := y.d r) (mode := 0) (nm := ByteArray.mk #[112]) rfl (SV.dOk ((hy.ext E3).ext e4) ha hd1500 hr) (SV.dSm ha hd1500 r) (fun h => by rw [SV.openOk ha hd1500] at h; simp at h) fun _ gr m d' w5 e5 h5 hd' => ?_
  have hP5 := hP.ext e5
  obtain ⟨X, hX⟩ : ∃ X : VX, X = ⟨gr, gd, d', 0⟩ := ⟨_, rfl⟩
  have hXgd : X.gd = gd := by rw [hX]
  have hG : GoodR w5 B y X (VM.fresh m) := by rw [hX]; exact GoodR.new (h5.base hB2) hd'
  rw [show gr = X.gr by rw [hX]]
  rw [← hXgd] at hP5
  refine join_i (fun c w' => c = false ∧ w5 = w') ?_ fun J hJ => ?_
  rotate_left
  · refine cond_i (fun h => by cases h) (fun _ => ?_)
    exact ptrEq_i (hJ _ _ ⟨rfl, rfl⟩)
  rintro c w' ⟨rfl, rfl⟩
  refine cond_i (fun h => by cases h) (fun _ => ?_)
  refine loop_i (fun (x : Int) w' => ∃ (k : Nat) (V : VM), x = k ∧ k ≤ picks.length ∧ GoodR w' B y X V ∧ P1 w3 w' B X.gd L y.part (fun _ => false)) (fun x _ => picks.length - x.toNat) ⟨0, VM.fresh m, rfl, Nat.zero_le _, hG, hP5⟩ ?_
  rintro _ w6 again ⟨k, V, rfl, hk, G6, P6⟩ hag
  have E6 := E3.trans P6.e0
  refine cond_i (fun hlt => ?_) (fun hge => ?_)
  · have hlt : k < picks.length := by have : (k : Int) < (p1.len : Int) := of_decide_eq_true hlt
                                      omega
    refine elem_i (l := .int .i64) (x := picks[k]'hlt) (hp.1.ext E6) (by omega) (by omega) (by rw [Int.toNat_natCast, List.getElem?_map, List.getElem?_eq_getElem hlt]; rfl) ?_
    have hI := hp.2 _ (List.getElem_mem hlt)
    generalize picks[k]'hlt = i at hI ⊢
    refine vReadF_s G6 P6 ha hd1500 ht3 hI fun rb w7 V' f7 P7 G7 _ _ _ _ _ => ?_
    refine hag _ w7 ⟨k + 1, V', ?_, by omega, G7, P7⟩ ?_
    · rw [show (k : Int) + 1 = ((k + 1 : Nat) : Int) by omega]; exact wrap_nat (by omega)
    · rw [show (k : Int) + 1 = ((k + 1 : Nat) : Int) by omega, wrap_nat (by omega)]; omega
  · clear hag hge
    have hkn64 : V.kn.length ≤ 64 := by have := G6.ok.len; unfold knP at this; rwa [List.length_map] at this
    have hnd : (V.kn.map (·.p)).Nodup := by have := G6.ok.nodup; unfold knP at this; rwa [List.map_map] at this
    refine vKnown_s G6.at_ (by omega) fun kv w7 e7 ok => ?_
    have hkl : kv.len = V.kn.length := own_map ok
    have E7 := E6.trans e7
    have hval : ∀ e ∈ V.kn, e.p.1 < 2 ^ 53 ∧ e.p.2 < 2 ^ 53 ∧ 1 ≤ e.p.2 := fun e he => by
      obtain ⟨_, q1, q2, _⟩ := G6.at_.kn e he
      have := (G6.ok.lev (e.p, e.b) (List.mem_map.2 ⟨e, he, rfl⟩)).1
      exact ⟨q1, q2, this⟩
    refine loop_i (fun (x : Int) w' => ∃ k : Nat, x = k ∧ k ≤ V.kn.length ∧ Ext w7 w') (fun x _ => V.kn.length - x.toNat) ⟨0, rfl, Nat.zero_le _, Fr.refl _ _⟩ ?_
    rintro _ w8 again ⟨a, rfl, hak, e8⟩ hag
    refine cond_i (fun hlt => ?_) (fun hge => ?_)
    · have hlt : a < V.kn.length := by have : (a : Int) < (kv.len : Int) := of_decide_eq_true hlt
                                       omega
      have hga : V.kn[a]? = some (V.kn[a]'hlt) := List.getElem?_eq_getElem hlt
      have hma := hval _ (List.getElem_mem hlt)
      generalize V.kn[a]'hlt = ea at hga hma
      refine elem_i (l := .cpx) (x := cz ea.p.1 ea.p.2) (ok.rd.ext e8) (by omega) (by omega) (by rw [Int.toNat_natCast, List.getElem?_map, hga]; rfl) ?_
      dsimp only
      rw [lt_W (isW_fw hma.2.1) isW1, decide_eq_false (show ¬ ea.p.2 < 1 by omega)]
      refine cond_i (fun h => by cases h) (fun _ => ?_)
      have hcap := ok.rd.cap
      refine slHi_i (by omega) (by omega) ?_
      rw [Int.toNat_natCast]
      have rcut := Rd.cut (ok.rd.ext e8) (l := 0) (hi := a) (by omega) (by omega)
      rw [Nat.zero_mul, List.drop_zero, Nat.sub_zero, Nat.mul_one] at rcut
      have hcl : (kv.cut 1 0 a).len = a := by simp [Sl.cut]
      refine loop_i (fun (x : Int) w' => ∃ k : Nat, x = k ∧ k ≤ a ∧ w8 = w') (fun x _ => a - x.toNat) ⟨0, rfl, Nat.zero_le _, rfl⟩ ?_
      rintro _ w9 again2 ⟨b, rfl, hbk, rfl⟩ hag2
      refine cond_i (fun hlt2 => ?_) (fun hge2 => ?_)
      · have hlt2 : b < a := by have : (b : Int) < ((kv.cut 1 0 a).len : Int) := of_decide_eq_true hlt2
                                omega
        have hlb : b < V.kn.length := by omega
        have hgb : V.kn[b]? = some (V.kn[b]'hlb) := List.getElem?_eq_getElem hlb
        have hmb := hval _ (List.getElem_mem hlb)
        generalize V.kn[b]'hlb = eb at hgb hmb
        refine elem_i (l := .cpx) (x := cz eb.p.1 eb.p.2) rcut (by omega) (by omega) (by rw [Int.toNat_natCast, List.getElem?_take, if_pos hlt2, List.getElem?_map, hgb]; rfl) ?_
        dsimp only
        have hne : eb.p ≠ ea.p := nodup_ne hnd (by rw [List.getElem?_map, hgb]; rfl) (by rw [List.getElem?_map, hga]; rfl) hlt2
        have hfalse : (fcEq (fw ea.p.1) (fw eb.p.1) && fcEq (fw ea.p.2) (fw eb.p.2)) = false := by
          rw [fcEq_W (isW_fw hma.1) (isW_fw hmb.1), fcEq_W (isW_fw hma.2.1) (isW_fw hmb.2.1)]
          rw [Bool.and_eq_false_iff, decide_eq_false_iff_not, decide_eq_false_iff_not]
          by_cases h1 : ea.p.1 = eb.p.1
          · exact .inr fun h2 => hne (Prod.ext h1.symm h2.symm)
          · exact .inl h1
        rw [hfalse]
        refine cond_i (fun h => by cases h) (fun _ => ?_)
        have hw : IntKind.wrap .i64 ((b : Int) + 1) = ((b + 1 : Nat) : Int) := wrap_nat (n := b + 1) (by omega)
        rw [hw]
        exact hag2 _ _ ⟨b + 1, rfl, by omega, rfl⟩ (by omega)
      · have hw : IntKind.wrap .i64 ((a : Int) + 1) = ((a + 1 : Nat) : Int) := wrap_nat (n := a + 1) (by omega)
        rw [hw]
        exact hag _ _ ⟨a + 1, rfl, by omega, e8⟩ (by omega)
    · rw [decide_eq_true (show (kv.len : Int) ≤ 64 by omega)]
      exact hK w8 (E7.trans e8)
theorem rdWhole {w : World} {g n c : Nat} {cs : List Value} (h : Var w g cs) (hn : n = cs.length) (hc : n ≤ c) : Rd w ⟨some (at_ g 0), n, c⟩ 1 cs :=
  ⟨by simp [hn], hc, (fun h => by cases h), fun a ha i v hv => by cases ha; rw [at_add]; exact h.cell (by simpa using hv)⟩
/-- 'want := make([]byte, s.Block); copy(want, s.Data[i*s.Block:])' -/
theorem want_i {g : Nat} {n : Nat} {K : Sl → World → Prop} {w : World} (v : Var w g y.cells) (hy : y.Ok w) (ha : y.ask = 0) (hd : y.data.2.length ≤ 1500) (hn : n < y.x.c 0)
    (hK : ∀ s w', Ext w w' → Bts w' s (y.x.blk y.H y.data.2 0 n) → K s w') :
    semS Tryd.prog (Instr.loadAt 3 (.pointer (some (at_ g 1)))) (.one (.int .i64)) (fun x54 w =>
      semS Tryd.prog (Instr.makeSlice 22 (.int .i64 x54) (.int .i64 x54)) (.one .slc) (fun x55 w =>
      semS Tryd.prog (Instr.loadAt 22 (.pointer (some (at_ g 4)))) (.one .slc) (fun x56 w =>
      semS Tryd.prog (Instr.loadAt 3 (.pointer (some (at_ g 1)))) (.one (.int .i64)) (fun x57 w =>
      semS Tryd.prog (Instr.sliceAt 22 (.slice x56.a x56.len x56.cap) (some (.int .i64 (IntKind.wrap .i64 ((n : Int) * x57)))) none none) (.one .slc) (fun x58 w =>
      semS Tryd.prog (Builtin.copy_ #[22, 22] 3 #[(.slice x55.a x55.len x55.cap), (.slice x58.a x58.len x58.cap)]) (.one (.int .i64)) (fun r59 w => K x55 w) w) w) w) w) w) w := by
  have o := SV.xok ha
  have hb1 := o.b1
  have hb2 := o.b2
  have hbb : y.blk = (y.x.bN : Int) := o.b
  have hdl := Bts.len hy.data
  have hfrom : n * y.x.bN < y.x.sN := (S.up_iff (by omega) o.s1).1 (show n < S.up y.x.sN y.x.bN from hn)
  have hsN : y.x.sN = y.data.2.length := rfl
  refine ld1_i (l := .int .i64) (o := 1) y.blk v rfl ?_
  rw [hbb]
  refine makeRow_i (by omega) (by omega) fun b w1 e1 hb v1 => ?_
  rw [Int.toNat_natCast] at v1 ⊢
  have hz : (Builtin.zeroCells (Value.int .u8 0).cells y.x.bN).toList = List.replicate y.x.bN (vB 0) := zeroCells_one _ _
  rw [hz] at v1
  refine ld1_i (l := .slc) (o := 4) y.data.1 (v.ext e1) rfl ?_
  refine ld1_i (l := .int .i64) (o := 1) y.blk (v.ext e1) rfl ?_
  have hw : IntKind.wrap .i64 ((n : Int) * y.blk) = ((n * y.x.bN : Nat) : Int) := by rw [hbb, ← Int.natCast_mul]; exact wrap_nat (by omega)
  rw [hw]
  refine slLo_i (by omega) (by omega) ?_
  rw [Int.toNat_natCast]
  have hc := Bts.cutAll (hy.data.ext e1) (l := n * y.x.bN) (by omega)
  refine copyV_i' (o := 0) (bb := b) (dst := ⟨some (at_ b 0), y.x.bN, y.x.bN⟩) (P := Tryd.prog) v1 (fun _ => rfl) (by rw [List.length_replicate]; show 0 + y.x.bN ≤ y.x.bN; omega) hc bytes_one fun w2 f2 v2 => ?_
  refine hK _ w2 (Fr.own1 e1 f2 hb) ?_
  have hcells : (List.replicate y.x.bN (vB 0)).take 0 ++ ((y.data.2.drop (n * y.x.bN)).map vB).take y.x.bN ++ (List.replicate y.x.bN (vB 0)).drop (0 + min ((y.data.2.drop (n * y.x.bN)).map vB).length y.x.bN) = (y.x.blk y.H y.data.2 0 n).map vB := by
    show _ = (S.fit y.x.bN _).map vB
    unfold S.fit
    rw [List.take_zero, List.nil_append, List.map_append, List.map_take, List.map_replicate, List.drop_replicate, List.length_take, List.length_map]
    congr 2; omega
  dsimp only at v2
  rw [hcells] at v2
  exact rdWhole v2 (by rw [List.length_map, S.Shp.blk_len o (SV.len ha)]) (Nat.le_refl _)
set_option maxHeartbeats 1000000 in
theorem VerityFair_s {p1 : Sl} {picks : List Int} {K : Bool → World → Prop} {w : World} (hy : y.Ok w) (hp : Rd w p1 1 (picks.map (Value.int .i64)) ∧ ∀ x ∈ picks, -9223372036854775808 ≤ x ∧ x ≤ 9223372036854775807) (ht1 : Tabs w) (ht2 : L.Tabs w) (hK : ∀ w', Ext w w' → K true w') :
    callS Tryd.prog 5 #[.agg y.cells.toArray, .slice p1.a p1.len p1.cap] [.one .bool] K w := by
  refine f5_ok (p0_0 := y.alg) (p0_1 := y.blk) (p0_2 := y.mode) (p0_3 := y.salt.1) (p0_4 := y.data.1) ?_
  unfold f5
  have ht : Tabs9 w := ⟨ht1, ht2⟩
  have hsl := Bts.len hy.salt
  have hdl := Bts.len hy.data
  have hpl : p1.len = picks.length := by have := hp.1.len; rw [List.length_map] at this; omega
  refine box_i fun g w1 e1 hg v1 => ?_
  have v1 : Var w1 g y.cells := v1
  refine anchor17_s (ht.ext e1) fun w2 e2 => ?_
  refine cond_i (fun h => by cases h) (fun _ => ?_)
  have E2 := e1.trans e2
  have v2 := v1.ext e2
  refine ldSV_i v2 ?_
  refine seedSmallV_s hsl hdl fun w3 e3 => ?_
  have E3 := E2.trans e3
  have v3 := v2.ext e3
  refine cond_i (fun _ => hK w3 E3) (fun h => ?_)
  simp only [Bool.or_eq_false_iff, Bool.not_eq_false', decide_eq_false_iff_not] at h
  obtain ⟨hsm, hp60⟩ := h
  obtain ⟨hs64, hd1500, hb4096⟩ := small_of hsm
  have ht3 := ht.ext E3
  refine seed_i (R := fun x26 r14 x27 w => _) v3 (hy.ext E3) ht3 (Fr.refl _ w3) hd1500 (fun _ g2 w4 e4 => ?_) fun ha gd L r g2 B w4 e4 hin hP hB1 hB2 hr hg2 vd => ?_
  · exact cond_i (fun _ => hK w4 (E3.trans e4)) (fun h => by cases h)
  refine cond_i (fun h => by cases h) (fun _ => ?_)
  refine ldD_i vd ?_
  have v4 := v3.ext e4
  refine ld1_i (l := .int .i64) (o := 2) y.mode v4 rfl ?_
  refine vOpen_s (gd := gd) (d := y.d r) (mode := y.mode) (nm := ByteArray.mk #[112]) rfl (SV.dOk ((hy.ext E3).ext e4) ha hd1500 hr) (SV.dSm ha hd1500 r) (fun h w5 e5 => ?_) fun hop gr m d' w5 e5 h5 hd' => ?_
  · rw [SV.openOk ha hd1500] at h
    refine cond_i (fun _ => ?_) (fun h => by cases h)
    have E5 := (E3.trans e4).trans e5
    have v5 := v4.ext e5
    refine ld1_i (l := .int .i64) (o := 2) y.mode v5 rfl ?_
    refine joinOr (x := decide (y.mode > 1)) (fun w6 e6 => ?_) fun J hJ _ => ld1_i (l := .int .i64) (o := 2) y.mode v5 rfl (hJ _ (Fr.refl _ _))
    have : (decide (y.mode < 0) || decide (y.mode > 1)) = true := by
      cases h1 : decide (y.mode < 0) <;> cases h2 : decide (y.mode > 1) <;> rw [h1, h2] at h <;> simp_all
    rw [this]
    exact hK w6 (E5.trans e6)
  refine cond_i (fun h => by cases h) (fun _ => ?_)
  have hP5 := hP.ext e5
  obtain ⟨X, hX⟩ : ∃ X : VX, X = ⟨gr, gd, d', y.mode⟩ := ⟨_, rfl⟩
  have hXgd : X.gd = gd := by rw [hX]
  have hG : GoodR w5 B y X (VM.fresh m) := by rw [hX]; exact GoodR.new (h5.base hB2) hd'
  rw [show gr = X.gr by rw [hX]]
  rw [← hXgd] at hP5
  have hx := hG.rdy.ok ha hd1500
  have hxe := hG.rdy.xe
  have hcm := S.Shp.c_max (SV.xok ha) 0
  refine loop_i (fun (x : Int) w' => ∃ (k : Nat) (V : VM), x = k ∧ k ≤ picks.length ∧ GoodR w' B y X V ∧ P1 w3 w' B X.gd L y.part (fun _ => false)) (fun x _ => picks.length - x.toNat) ⟨0, VM.fresh m, rfl, Nat.zero_le _, hG, hP5⟩ ?_
  rintro _ w6 again ⟨k, V, rfl, hk, G6, P6⟩ hag
  have E6 := E3.trans P6.e0
  refine cond_i (fun hlt => ?_) (fun hge => ?_)
  · have hlt : k < picks.length := by have : (k : Int) < (p1.len : Int) := of_decide_eq_true hlt
                                      omega
    refine elem_i (l := .int .i64) (x := picks[k]'hlt) (hp.1.ext E6) (by omega) (by omega) (by rw [Int.toNat_natCast, List.getElem?_map, List.getElem?_eq_getElem hlt]; rfl) ?_
    have hI := hp.2 _ (List.getElem_mem hlt)
    generalize picks[k]'hlt = i at hI ⊢
    refine vReadF_s G6 P6 ha hd1500 ht3 hI fun rb w7 V' f7 P7 G7 _ _ _ orb _ => ?_
    have hw : IntKind.wrap .i64 ((k : Int) + 1) = ((k + 1 : Nat) : Int) := wrap_nat (n := k + 1) (by omega)
    rw [hw]
    have next : ∀ w8, Ext w7 w8 → again ((k + 1 : Nat) : Int) w8 := fun w8 e8 => hag _ w8 ⟨k + 1, V', rfl, by omega, G7.ext e8, P7.ext e8⟩ (by omega)
    refine joinOr (x := decide (i ≥ (y.x.c 0 : Int))) (fun w8 e8 => ?_) fun J hJ _ => vBlocks_s G7.at_ hx fun w8 e8 => by rw [hxe]; exact hJ w8 e8
    have orb8 := Own.ext orb e8
    have hrl := OwnB.len orb8
    by_cases hinr : fairIn y i
    · have h1 : (decide (i < 0) || decide (i ≥ (y.x.c 0 : Int))) = false := by
        rw [decide_eq_false (show ¬ i < 0 by have := hinr.1; omega), decide_eq_false (show ¬ i ≥ (y.x.c 0 : Int) by have := hinr.2; omega)]; rfl
      rw [h1]
      refine cond_i (fun h => by cases h) (fun _ => ?_)
      obtain ⟨n, rfl⟩ : ∃ n : Nat, i = n := ⟨i.toNat, by have := hinr.1; omega⟩
      have hn : n < y.x.c 0 := by have := hinr.2; omega
      have hE : fairE y n = 0 := if_pos hinr
      have hB : fairB y n = y.x.blk y.H y.data.2 0 n := by unfold fairB; rw [if_pos hinr, Int.toNat_natCast]
      rw [hB] at orb8
      have P8 := P7.ext e8
      refine want_i (v3.ext P8.e0) ((hy.ext E3).ext P8.e0) ha hd1500 hn fun s w9 e9 hs => ?_
      rw [hE]
      refine joinOr (x := false) (fun w10 e10 => ?_) fun J hJ _ => ?_
      · exact cond_i (fun h => by cases h) (fun _ => next _ ((e8.trans e9).trans e10))
      · refine b2s_i (Own.ext orb8 e9).rd (b2s_i hs ?_)
        rw [str_toList, beq_self_eq_true]
        exact hJ _ (Fr.refl _ _)
    · have h1 : (decide (i < 0) || decide (i ≥ (y.x.c 0 : Int))) = true := by
        by_cases h0 : i < 0
        · rw [decide_eq_true h0]; rfl
        · rw [decide_eq_true (show i ≥ (y.x.c 0 : Int) from by
            apply Classical.byContradiction
            intro hc
            exact hinr ⟨by omega, by omega⟩), Bool.or_true]
      rw [h1]
      refine cond_i (fun _ => ?_) (fun h => by cases h)
      have hE : fairE y i = 13 := if_neg hinr
      have hB : fairB y i = [] := if_neg hinr
      rw [hB] at hrl
      rw [hE, hrl]
      exact cond_i (fun h => by cases h) (fun _ => next _ e8)
  · refine vBroken_s G6.at_ ?_
    rw [G6.whole]
    exact hK w6 E6
end
end Go.Proofs.YteopoodhclljjaaDoor
