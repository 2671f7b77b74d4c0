/- Layer 17 (verity): the law VerityPlays. -/
import Derived.Test.YteopoodhclljjaaGreatDoorG17m
set_option linter.unusedSimpArgs false
set_option linter.unusedVariables false
/-! Law17d -/
namespace Go.Proofs.YteopoodhclljjaaGreatDoor
open Go Go.Eng
open Go.S (Pl Kn Vq Vr klook vfirst vblk vput)
def RM.all (M : RM) (X : VX) (k : Nat) : Prop := M.mut X k ∨ M.imm X k
def PT.all (T : PT) (k : Nat) : Prop := T.l.inB k ∨ T.ds.inB k ∨ T.bs.inB k
/-- The program's reader and the document's, over one drive. -/
structure Play (w0 w : World) (B : Nat) (L : Lay) (X X' : VX) (V : VM) (M : RM) (T : PT) : Prop where
  p : P1 w0 w B X.gd L T.b (S.bfn T.bads)
  v : VrAt w B X V
  m : RAt w X' M
  ok : VOk X.q (knP V.kn)
  same : M.pure = V.pure
  list : Rd w T.l 3 (partC T.ds T.bs)
  od : OwnB w w0.heap.size T.ds T.b
  ob : Own w w0.heap.size T.bs 1 (T.bads.map Value.bool)
  size : T.bads.length * 64 = T.b.length
  mlo : ∀ k, M.mut X' k → w0.heap.size ≤ k
  sVM : ∀ k, M.all X' k → ¬ V.all X k
  sMD : ∀ k, M.all X' k → ¬ L.inD X.gd k
  sTD : ∀ k, T.all k → ¬ L.inD X.gd k
  sTV : ∀ k, T.all k → ¬ V.all X k
  sTM : ∀ k, T.all k → ¬ M.all X' k
  apD : ∀ k, T.ds.inB k → ¬ T.bs.inB k
  apL : ∀ k, T.l.inB k → ¬ T.ds.inB k ∧ ¬ T.bs.inB k
section
variable {y : SV} {w0 w w' : World} {B : Nat} {L : Lay} {X X' : VX} {V : VM} {M : RM} {T : PT}
theorem Play.tlt (h : Play w0 w B L X X' V M T) {k : Nat} (hk : T.all k) : k < w.heap.size := by
  rcases hk with ⟨a, ha, rfl⟩ | hk | hk
  · exact rd_lt h.list (by simp [partC]) ha
  · exact (Own.inB h.od hk).2
  · exact (h.ob.inB hk).2
/-- What turns none of it. -/
theorem Play.fr {S : Nat → Prop} (h : Play w0 w B L X X' V M T) (hf : Fr S w w') (h0 : ∀ k, S k → w0.heap.size ≤ k) (h1 : ∀ k, L.inD X.gd k → ¬ S k) (h2 : ∀ k, V.all X k → ¬ S k) (h3 : ∀ k, M.all X' k → ¬ S k) (h4 : ∀ k, T.all k → ¬ S k) : Play w0 w' B L X X' V M T :=
  ⟨h.p.fr hf h1 h0, h.v.fr hf h2, h.m.fr hf h3, h.ok, h.same, h.list.fr hf fun a ha => h4 _ (.inl ⟨a, ha, rfl⟩), Own.fr h.od hf fun a ha => h4 _ (.inr (.inl ⟨a, ha, rfl⟩)), h.ob.fr hf fun a ha => h4 _ (.inr (.inr ⟨a, ha, rfl⟩)), h.size, h.mlo, h.sVM, h.sMD, h.sTD, h.sTV, h.sTM, h.apD, h.apL⟩
theorem Play.ext (h : Play w0 w B L X X' V M T) (e : Ext w w') : Play w0 w' B L X X' V M T := h.fr e (fun _ h => h.elim) (fun _ _ => id) (fun _ _ => id) (fun _ _ => id) fun _ _ => id
theorem Play.rd (h : Play w0 w B L X X' V M T) : PtRd w T := ⟨h.list, Own.rd h.od, h.ob.rd, h.size, h.p.len⟩
def PT.turn (T : PT) (o : VOp) : PT := { T with b := turnB o T.b, bads := turnL o T.b T.bads }
theorem playTurn_s {o : VOp} {K : World → Prop} (h : Play w0 w B L X X' V M T) (ho : o.Ok w0) (ho3 : o.dat.2.length ≤ 300) {pa : Addr} (hpa : T.l.a = some pa)
    (hK : ∀ w', Play w0 w' B L X X' V M (T.turn o) → K w') :
    callS Tryz.prog 14 #[.pointer (some (at_ X.gd 0)), .pointer (some (pa.add 0)), .agg #[.int .i64 o.kind, .int .i64 o.i, .slice o.dat.1.a o.dat.1.len o.dat.1.cap, .bool o.on]] [] K w := by
  have hbl : T.bads.length = T.b.length / 64 := by have := h.size; omega
  have how : o.Ok w := ⟨ho.kind, ho.i, ho.dat.ext h.p.e0⟩
  have hb0 : pa.add 0 = pa := by simp [Addr.add]
  have hpl : T.l.inB pa.block := ⟨pa, hpa, rfl⟩
  rw [hb0]
  refine turn17_s (b' := T.b) (bads := T.bads) h.p how ho3 (fun hne a ha => ?_) (h.list.cells pa hpa 1 _ rfl) (h.list.cells pa hpa 2 _ rfl) h.od h.ob rfl hbl (fun k hk => ⟨h.sTD k (.inr hk), fun e => ?_, ?_⟩) h.apD (h.sTD _ (.inl hpl)) fun w' f P od ob => ?_
  · have hlt := rd_lt ho.dat (by simpa using hne) ha
    refine ⟨fun hd => ?_, fun hd => ?_⟩
    · have := (h.p.lo _ hd).1; omega
    · have := (Own.inB h.od hd).1; omega
  · subst e
    exact hk.elim (h.apL _ hpl).1 (h.apL _ hpl).2
  · exact hk.elim (fun hk => (Own.inB h.od hk).1) fun hk => (h.ob.inB hk).1
  · rw [turn_bfn hbl] at P
    have hT : ∀ k, L.inD X.gd k ∨ T.ds.inB k ∨ T.bs.inB k → L.inD X.gd k ∨ T.all k := fun k hk => hk.imp id .inr
    refine hK w' ⟨P, h.v.fr f fun k hk hc => ?_, h.m.fr f fun k hk hc => ?_, h.ok, h.same, h.list.fr f fun a ha hc => ?_, od, ob, ?_, h.mlo, h.sVM, h.sMD, h.sTD, h.sTV, h.sTM, h.apD, h.apL⟩
    · rcases hT k hc with hc | hc
      · have := (h.v.in hk).1; have := (h.p.lo k hc).2; omega
      · exact h.sTV k hc hk
    · rcases hT k hc with hc | hc
      · exact h.sMD k hk hc
      · exact h.sTM k hc hk
    · rcases hc with hc | hc | hc
      · exact h.sTD _ (.inl ⟨a, ha, rfl⟩) hc
      · exact (h.apL _ ⟨a, ha, rfl⟩).1 hc
      · exact (h.apL _ ⟨a, ha, rfl⟩).2 hc
    · show (turnL o T.b T.bads).length * 64 = (turnB o T.b).length
      rw [turnL_len, turnB_len]; exact h.size
/-- Both read. -/
theorem playRead_s {i : Int} {K : Sl → Int → World → Prop} (h : Play w0 w B L X X' V M T) (hx : XOk X) (hx' : XOk X') (hq : X'.q = X.q) (hF : X'.F T.b (S.bfn T.bads) = X.F T.b (S.bfn T.bads)) (hi : S.I64 i)
    (hK : ∀ (v : Sl) w' M', Fr (M.mut X') w w' → RAt w' X' M' → M'.pure = (vread (X.F T.b (S.bfn T.bads)) X.q V.pure i).2.2 → (∀ k, M'.mut X' k ∨ M'.imm X' k → M.mut X' k ∨ M.imm X' k ∨ w.heap.size ≤ k) → (∀ k, M'.mut X' k → M.mut X' k ∨ w.heap.size ≤ k) →
      Bts w' v (vread (X.F T.b (S.bfn T.bads)) X.q V.pure i).1 → (∀ k, v.inB k → M'.imm X' k) → K v (vread (X.F T.b (S.bfn T.bads)) X.q V.pure i).2.1 w') :
    callS Tryz.prog 15 #[.pointer (some (at_ X'.gr 0)), .slice T.l.a T.l.len T.l.cap, .int .i64 i] [.one .slc, .one (.int .i64)] K w := by
  have hkn : knP M.kl = knP V.kn := congrArg Vr.known h.same
  refine rfRead_s h.m h.rd (fun k hk hc => h.sTM k hc (.inl hk)) hx' (by rw [hq, hkn]; exact h.ok) hi fun v w' M' f m' hp hall hmut hb hin => ?_
  rw [hq, hF, h.same] at hp hb ⊢
  exact hK v w' M' f m' hp hall hmut hb hin
theorem Rdy.Ff {y : SV} {X : VX} (h : Rdy y X) (b : List UInt8) (bad : Int → Bool) : X.F b bad = S.vfetch y.x (S.vOff y.data.2.length : Nat) b bad := by
  unfold VX.F
  rw [h.xe, h.oe]
theorem Rdy.qEq {y : SV} {X X' : VX} (h : Rdy y X) (h' : Rdy y X') (hm : X'.mode = X.mode) : X'.q = X.q := by rw [h.qe, h'.qe, hm]
set_option maxHeartbeats 2000000 in
theorem plays_t1 {rb : Sl} {bs : List UInt8} {k : Nat} {again : Int → World → Prop} {K : Bool → World → Prop} {D : Nat} (h : Play w0 w B L X X' V M T) (hrb : OwnB w D rb bs) (hrs : ∀ j, rb.inB j → w0.heap.size ≤ j ∧ ¬ L.inD X.gd j ∧ ¬ V.all X j ∧ ¬ M.all X' j ∧ ¬ T.all j) (hbl : bs.length ≤ 4096) (hk : k ≤ 1000)
    (hn : ∀ w', Play w0 w' B L X X' V M T → again ((k + 1 : Nat) : Int) w') :
    f3_t1 false K rb (some (at_ X.gr 0)) (at_ X'.gr 0) again (k : Int) w := by
  unfold f3_t1
  refine cond_i (fun h => by cases h) (fun _ => ?_)
  refine loop_i (fun (x : Int) w' => ∃ (j : Nat) (bs' : List UInt8), x = j ∧ j ≤ bs.length ∧ bs'.length = bs.length ∧ Fr rb.inB w w' ∧ OwnB w' D rb bs') (fun x _ => bs.length - x.toNat) ⟨0, bs, rfl, Nat.zero_le _, rfl, Fr.refl _ _, hrb⟩ ?_
  rintro _ w1 again1 ⟨j, bs', rfl, hj, hbl', f1, o1⟩ hag
  have hrl := OwnB.len o1
  refine cond_i (fun hlt => ?_) (fun hge => ?_)
  · have hlt : j < bs'.length := by have : (j : Int) < (rb.len : Int) := of_decide_eq_true hlt
                                    omega
    refine elem_i (l := .int .u8) (x := ((bs'[j]'hlt).toNat : Int)) o1.rd (by omega) (by omega) (by rw [Int.toNat_natCast]; exact bytes_get hlt) ?_
    have hxor : xorI .u8 ((bs'[j]'hlt).toNat : Int) 255 = (((bs'[j]'hlt) ^^^ 255).toNat : Int) := by
      have := xor_u8 (a := (bs'[j]'hlt).toNat) (b := (255 : UInt8).toNat) (UInt8.toNat_lt _) (UInt8.toNat_lt _)
      rw [show ((255 : UInt8).toNat : Int) = 255 from rfl] at this
      rw [this, UInt8.toNat_xor]
    refine put1_i ((bs'[j]'hlt) ^^^ 255) o1 (by omega) (by omega) hxor fun w2 f2 o2 => ?_
    have hw : IntKind.wrap .i64 ((j : Int) + 1) = ((j + 1 : Nat) : Int) := wrap_nat (n := j + 1) (by omega)
    rw [hw]
    exact hag _ w2 ⟨j + 1, _, rfl, by omega, by rw [List.length_set]; exact hbl', f1.trans' f2, o2⟩ (by omega)
  clear hag
  have h1 : Play w0 w1 B L X X' V M T := h.fr f1 (fun k hk => (hrs k hk).1) (fun k hk hc => (hrs k hc).2.1 hk) (fun k hk hc => (hrs k hc).2.2.1 hk) (fun k hk hc => (hrs k hc).2.2.2.1 hk) fun k hk hc => (hrs k hc).2.2.2.2 hk
  have hkl : V.kn.length ≤ 64 := by have := h.ok.len; unfold knP at this; rwa [List.length_map] at this
  have hks : knP M.kl = knP V.kn := congrArg Vr.known h.same
  have hlen : M.kl.length = V.kn.length := by have := congrArg List.length hks; unfold knP at this; rwa [List.length_map, List.length_map] at this
  refine vKnown_s h1.v (by omega) fun kv w2 e2 ok => ?_
  have hkvl : kv.len = V.kn.length := own_map ok
  have h2 := h1.ext e2
  refine ld1_i (l := .slc) (o := 13) M.kn h2.m.var rfl ?_
  have hml := h2.m.len.1
  refine cond_i (fun hne => ?_) (fun _ => ?_)
  · have : (kv.len : Int) ≠ (M.kn.len : Int) := bne_iff_ne.1 hne
    omega
  refine loop_i (fun (x : Int) w' => ∃ j : Nat, x = j ∧ j ≤ V.kn.length ∧ Ext w2 w') (fun x _ => V.kn.length - x.toNat) ⟨0, rfl, Nat.zero_le _, Fr.refl _ _⟩ ?_
  rintro _ w3 again2 ⟨j, rfl, hj, e3⟩ hag
  have h3 := h2.ext e3
  refine cond_i (fun hlt => ?_) (fun hge => ?_)
  · have hlt : j < V.kn.length := by have : (j : Int) < (kv.len : Int) := of_decide_eq_true hlt
                                     omega
    have hlm : j < M.kl.length := by omega
    have hgv : V.kn[j]? = some (V.kn[j]'hlt) := List.getElem?_eq_getElem hlt
    have hgm : M.kl[j]? = some (M.kl[j]'hlm) := List.getElem?_eq_getElem hlm
    have hmv := List.getElem_mem hlt
    generalize V.kn[j]'hlt = ev at hgv hmv
    generalize M.kl[j]'hlm = em at hgm
    have hpp : em.p = ev.p := by
      have := congrArg (·[j]?) hks
      unfold knP at this
      simp only [List.getElem?_map, hgv, hgm, Option.map_some] at this
      exact congrArg Prod.fst (Option.some.inj this)
    obtain ⟨_, b1, b2, _⟩ := h3.v.kn ev hmv
    refine elem_i (l := .cpx) (x := cz ev.p.1 ev.p.2) (ok.rd.ext e3) (by omega) (by omega) (by rw [Int.toNat_natCast, List.getElem?_map, hgv]; rfl) ?_
    refine ld1_i (l := .slc) (o := 13) M.kn h3.m.var rfl ?_
    refine ldP_i (l := M.pls) (p := em.p) h3.m.kn.rd (by omega) (by rw [Int.toNat_natCast]; exact RM.pls_get hgm) ?_
    rw [hpp]
    refine rNumber_s (i := ev.p.1) (l := ev.p.2) fun w4 e4 => ?_
    dsimp only
    rw [fcEq_W (isW_fw b1) (isW_fw b1), fcEq_W (isW_fw b2) (isW_fw b2)]
    refine cond_i (fun h => by simp at h) (fun _ => ?_)
    have hw : IntKind.wrap .i64 ((j : Int) + 1) = ((j + 1 : Nat) : Int) := wrap_nat (n := j + 1) (by omega)
    rw [hw]
    exact hag _ w4 ⟨j + 1, rfl, by omega, e3.trans e4⟩ (by omega)
  · have hw : IntKind.wrap .i64 ((k : Int) + 1) = ((k + 1 : Nat) : Int) := wrap_nat (n := k + 1) (by omega)
    rw [hw]
    exact hn w3 h3
set_option maxHeartbeats 4000000 in
theorem VerityPlays_s {p1 : Sl} {os : List VOp} {K : Bool → World → Prop} {w : World} (hy : y.Ok w) (hp : VOpsIn w p1 os) (ht1 : Tabs w) (ht2 : Go.Proofs.YteopoodhclljjaaGreatDoor.L.Tabs w) (hK : ∀ w', Ext w w' → K true w') :
    callS Tryz.prog 3 #[.agg y.cells.toArray, .slice p1.a p1.len p1.cap] [.one .bool] K w := by
  refine f3_ok (p0_0 := y.alg) (p0_1 := y.blk) (p0_2 := y.mode) (p0_3 := y.salt.1) (p0_4 := y.data.1) ?_
  unfold f3
  have ht : Tabs9 w := ⟨ht1, ht2⟩
  have hsl := Bts.len hy.salt
  have hdl := Bts.len hy.data
  have hpl : p1.len = os.length := by have := hp.rds.len; rw [List.length_map] at this; omega
  refine box_i fun g w1 e1 hg v1 => ?_
  have v1 : Var w1 g y.cells := v1
  refine anchor17_s (ht.ext e1) fun w2 e2 => ?_
  refine cond_i (fun h => by cases h) (fun _ => ?_)
  have E2 := e1.trans e2
  have v2 := v1.ext e2
  refine ldSV_i v2 ?_
  refine seedSmallV_s hsl hdl fun w3 e3 => ?_
  have E3 := E2.trans e3
  have v3 := v2.ext e3
  refine cond_i (fun _ => hK w3 E3) (fun h => ?_)
  simp only [Bool.or_eq_false_iff, Bool.not_eq_false', decide_eq_false_iff_not] at h
  obtain ⟨hsm, hp60⟩ := h
  obtain ⟨hs64, hd1500, hb4096⟩ := small_of hsm
  have ht3 := ht.ext E3
  refine seed_i (R := fun x26 r14 x27 w => _) v3 (hy.ext E3) ht3 (Fr.refl _ w3) hd1500 (fun _ g2 w4 e4 => ?_) fun ha gd L r g2 B w4 e4 hin hP hB1 hB2 hr hg2 vd hrd => ?_
  · exact cond_i (fun _ => hK w4 (E3.trans e4)) (fun h => by cases h)
  refine cond_i (fun h => by cases h) (fun _ => ?_)
  refine ldD_i vd ?_
  have v4 := v3.ext e4
  have E4 := E3.trans e4
  refine ld1_i (l := .int .i64) (o := 2) y.mode v4 rfl ?_
  refine vOpen_s (gd := gd) (d := y.d r) (mode := y.mode) (nm := ByteArray.mk #[112]) rfl (SV.dOk (hy.ext E4) ha hd1500 hr) (SV.dSm ha hd1500 r) (fun h w5 e5 => ?_) fun hop gr m d' w5 e5 h5 hd' => ?_
  · rw [SV.openOk ha hd1500] at h
    have v5 := v4.ext e5
    refine ld1_i (l := .int .i64) (o := 2) y.mode v5 rfl ?_
    refine joinOr (x := decide (y.mode > 1)) (fun w6 e6 => ?_) fun J hJ _ => ld1_i (l := .int .i64) (o := 2) y.mode v5 rfl (hJ _ (Fr.refl _ _))
    have : (decide (y.mode < 0) || decide (y.mode > 1)) = true := by
      cases h1 : decide (y.mode < 0) <;> cases h2 : decide (y.mode > 1) <;> rw [h1, h2] at h <;> simp_all
    rw [this]
    refine cond_i (fun _ => ?_) (fun h => by cases h)
    refine joinAnd (x := true) (fun w7 e7 => ?_) fun J hJ _ => ptrEq_i (hJ _ (Fr.refl _ _))
    exact hK w7 (((E4.trans e5).trans e6).trans e7)
  rw [SV.openOk ha hd1500] at hop
  have hmode : decide (y.mode < 0) = false ∧ decide (y.mode > 1) = false := by
    cases h1 : decide (y.mode < 0) <;> cases h2 : decide (y.mode > 1) <;> rw [h1, h2] at hop <;> simp_all
  have v5 := v4.ext e5
  refine ld1_i (l := .int .i64) (o := 2) y.mode v5 rfl ?_
  refine joinOr (x := false) (fun w6 e6 => ?_) fun J hJ _ => ld1_i (l := .int .i64) (o := 2) y.mode v5 rfl (by rw [hmode.2]; exact hJ _ (Fr.refl _ _))
  rw [hmode.1]
  refine cond_i (fun h => by simp at h) (fun _ => ?_)
  refine joinOr (x := false) (fun w7 e7 => ?_) fun J hJ _ => ptrEq_i (hJ _ (Fr.refl _ _))
  refine cond_i (fun h => by simp at h) (fun _ => ?_)
  have e57 := e6.trans e7
  have hv7 := h5.ext e57
  have hP7 := (hP.ext e5).ext e57
  -- the document's parts
  refine part17_s hP7 fun ds bs w8 f8 P8 od8 ob8 hdb8 => ?_
  have s4 := e4.size
  have s5 := e5.size
  have s57 := e57.size
  have s8 := f8.size
  refine buildSlice_i (partC ds bs).toArray (by kernel_rfl) rfl (by omega) fun lv w9 e9 o9 hlvl => ?_
  have hgdlt := hP.gdlt
  have hgd4 := hP.in (.inl rfl : L.inD gd gd)
  have vd9 : Var w9 g2 (y.d r).cells := ((vd.ext (e5.trans e57)).fr f8 (by omega)).ext e9
  have hg3 := v3.lt
  have hgdg : gd ≠ g := fun e => by have := hin gd (.inl rfl); omega
  have v9 : Var w9 g y.cells := ((v5.ext e57).fr f8 fun e => hgdg e.symm).ext e9
  have hdr := Ext.drew w9
  refine ⟨fun z => Ext w9 z, hdr, ?_⟩
  refine ldDQ_i (fun z hz => vd9.ext hz) ?_
  refine ld1Q_i (l := .int .i64) (o := 2) y.mode (fun z hz => v9.ext hz) rfl ?_
  refine mkDescr_s (d := y.d r) fun w10 e10 => ?_
  refine more_i (hdr.trans e10) ?_
  obtain ⟨X, hX⟩ : ∃ X : VX, X = ⟨gr, gd, d', y.mode⟩ := ⟨_, rfl⟩
  have hXgd : X.gd = gd := by rw [hX]
  have hXgr : X.gr = gr := by rw [hX]
  have R1 : Rdy y X := by rw [hX]; exact hd'
  refine box_i fun gm w11 e11 hgm v11 => ?_
  obtain ⟨X', hX'⟩ : ∃ X' : VX, X' = ⟨gm, gd, y.d r, y.mode⟩ := ⟨_, rfl⟩
  have R2 : Rdy y X' := by rw [hX']; rfl
  have hXm : X'.mode = X.mode := by rw [hX, hX']
  have hq := R1.qEq R2 hXm
  have x1 := R1.ok ha hd1500
  have x2 := R2.ok ha hd1500
  have e911 := (hdr.trans e10).trans e11
  obtain ⟨M, hM⟩ : ∃ M : RM, M = ⟨Sl.nil, Sl.nil, Sl.nil, [], [], false⟩ := ⟨_, rfl⟩
  obtain ⟨T, hT⟩ : ∃ T : PT, T = ⟨lv, ds, bs, y.part, List.replicate (y.part.length / 64) false⟩ := ⟨_, rfl⟩
  have hz := S.vSize_ge y.data.2.length y.T.length
  have hplen : y.part.length = S.vSize y.data.2.length y.T.length := S.vPart_len _ _
  have hbf : S.bfn (List.replicate (y.part.length / 64) false) = fun _ => false := by
    funext k
    unfold S.bfn
    have : (List.replicate (y.part.length / 64) false).getD k.toNat false = false := by
      rw [List.getD_eq_getElem?_getD, List.getElem?_replicate]
      split <;> rfl
    rw [this, Bool.and_false]
  have s911 := e911.size
  have s10 := (hdr.trans e10).size
  have s9 := e9.size
  have hrl := root_len ha
  have hdd := (SV.xok ha).dd
  have hrne : y.root ≠ [] := fun h => by rw [h] at hrl; simp at hrl; omega
  have hgml := v11.lt
  have hsaltlt : y.salt.2 ≠ [] → ∀ k, y.salt.1.inB k → k < w3.heap.size := fun hne k ⟨a, ha', hk⟩ => by
    subst hk
    have := rd_lt (hy.salt) (by simpa using hne) ha'
    have := E3.size
    omega
  have himm : ∀ k, M.imm X' k → (k < w3.heap.size ∨ (r.inB k ∧ w3.heap.size ≤ k ∧ k < B)) := fun k hk => by
    subst hM; subst hX'
    rcases hk with ⟨a, ha', _⟩ | ⟨x, hx, _⟩ | ⟨e, he, _⟩ | ⟨hne, hk⟩ | ⟨hne, hk⟩
    · cases ha'
    · cases hx
    · cases he
    · exact .inl (hsaltlt hne k hk)
    · exact .inr ⟨hk, (hrd k hk).2⟩
  have hmutM : ∀ k, M.mut X' k → k = gm := fun k hk => by
    subst hM; subst hX'
    rcases hk with hk | ⟨a, ha', _⟩ | ⟨a, ha', _⟩
    · exact hk
    · cases ha'
    · cases ha'
  have hds : ∀ k, ds.inB k → w7.heap.size ≤ k ∧ k < w8.heap.size := fun k hk => Own.inB od8 hk
  have hbs : ∀ k, bs.inB k → w7.heap.size ≤ k ∧ k < w8.heap.size := fun k hk => ob8.inB hk
  have hls : ∀ k, lv.inB k → w8.heap.size ≤ k ∧ k < w9.heap.size := fun k hk => o9.inB hk
  have hVall : ∀ k, (VM.fresh m).all X k → w4.heap.size ≤ k ∧ k < w7.heap.size := fun k hk => by
    subst hX
    have h1 := (h5.in hk)
    omega
  have hDall : ∀ k, L.inD gd k → w3.heap.size ≤ k ∧ k < B := fun k hk => hP.lo k hk
  have hv8 : VrAt w8 B X (VM.fresh m) := by
    subst hX
    exact (hv7.base hB2).rd hP7 f8
  have hroot : Bts w8 r y.root := (hr.ext (e5.trans e57)).fr f8 fun a ha' e => by
    have := (hrd _ ⟨a, ha', rfl⟩).1
    rw [e] at this
    exact this (.inl rfl)
  have hPlay : Play w3 w11 B L X X' (VM.fresh m) M T := by
    have hT' : ∀ k, T.all k → w7.heap.size ≤ k ∧ k < w9.heap.size := fun k hk => by
      subst hT
      rcases hk with hk | hk | hk
      · have := hls k hk; omega
      · have := hds k hk; omega
      · have := hbs k hk; omega
    have hMall : ∀ k, M.all X' k → k = gm ∨ k < w3.heap.size ∨ (r.inB k ∧ w3.heap.size ≤ k ∧ k < B) := fun k hk => hk.elim (fun hk => .inl (hmutM k hk)) fun hk => .inr (himm k hk)
    refine ⟨?_, (hv8.ext e9).ext e911, ?_, VOk.nil _, by rw [hM]; rfl, ?_, ?_, ?_, ?_, fun k hk => ?_, fun k hk hc => ?_, fun k hk hc => ?_, fun k hk hc => ?_, fun k hk hc => ?_, fun k hk hc => ?_, ?_, ?_⟩
    · rw [hXgd, hT]
      show P1 w3 w11 B gd L y.part (S.bfn _)
      rw [hbf]
      exact (P8.ext e9).ext e911
    · refine ⟨by rw [hX', hM]; exact v11, by rw [hM]; exact Own.nilSl _ _ _, by rw [hM]; exact Own.nilSl _ _ _, (by rw [hM]; exact fun e he => by cases he), by rw [hM]; exact Rd.nilSl _ _, (by rw [hM]; exact fun x hx => by cases hx), ?_, ?_, fun k hk => ?_, ?_, ?_, ?_⟩
      · rw [hX']
        exact (((hy.ext E3).ext P8.e0).ext (e9.trans e911)).salt
      · rw [hX']
        exact hroot.ext (e9.trans e911)
      · rcases himm k hk with h | h
        · refine ⟨fun hc => ?_, by omega⟩
          have := hmutM k hc
          omega
        · refine ⟨fun hc => ?_, by omega⟩
          have := hmutM k hc
          omega
      · rw [hM]; rintro ⟨a, ha', _⟩; cases ha'
      · rw [hM]; rintro ⟨a, ha', _⟩; cases ha'
      · rw [hM]; rintro k ⟨a, ha', _⟩; cases ha'
    · rw [hT]; exact o9.rd.ext e911
    · rw [hT]; exact ((Own.ext od8 e9).ext e911).base (by omega)
    · rw [hT]; exact ((ob8.ext e9).ext e911).base (by omega)
    · rw [hT]
      show (List.replicate (y.part.length / 64) false).length * 64 = y.part.length
      rw [List.length_replicate]; omega
    · have := hmutM k hk; omega
    · have h1 := hVall k hc
      rcases hMall k hk with h | h | h <;> omega
    · rw [hXgd] at hc
      have h1 := hDall k hc
      rcases hMall k hk with h | h | h
      · omega
      · omega
      · exact (hrd k h.1).1 hc
    · rw [hXgd] at hc
      have h1 := hDall k hc
      have := hT' k hk
      omega
    · have h1 := hVall k hc
      have := hT' k hk
      omega
    · have := hT' k hk
      rcases hMall k hc with h | h | h <;> omega
    · rw [hT]; exact hdb8
    · rw [hT]
      intro k hk
      have h1 := hls k hk
      exact ⟨fun hc => by have := hds k hc; omega, fun hc => by have := hbs k hc; omega⟩
  rw [← hXgr]
  have hc0 := S.Shp.c_max (SV.xok ha) 0
  refine vBlocks_s hPlay.v x1 fun w12 e12 => ?_
  rw [R1.xe]
  have hPlay12 := hPlay.ext e12
  have hXg' : X'.gr = gm := by rw [hX']
  rw [← hXg']
  refine rShape_s hPlay12.m fun w13 e13 => ?_
  rw [R2.xe]
  refine rCounts_s (SV.xok ha) fun c w14 e14 o14 => ?_
  have hcl : c.len = y.x.h + 1 := by have := o14.len; simp [S.Shp.cs_len] at this; omega
  refine elem_i (l := .int .i64) (x := (y.x.c 0 : Int)) o14.rd (by omega) (by omega) (by rw [show (0 : Int).toNat = 0 from rfl, List.getElem?_map, S.Shp.cs_get (Nat.zero_le _)]; rfl) ?_
  refine cond_i (fun h => by simp at h) (fun _ => ?_)
  have hPlay14 := hPlay12.ext (e13.trans e14)
  rw [show lv = T.l by rw [hT]]
  have hFe : ∀ (b : List UInt8) (bad : Int → Bool), X'.F b bad = X.F b bad := fun b bad => by rw [R1.Ff, R2.Ff]
  refine loop_i (fun (x : Int) w' => ∃ (k : Nat) (V : VM) (M : RM) (T' : PT), x = k ∧ k ≤ os.length ∧ T'.l = T.l ∧ Play w3 w' B L X X' V M T') (fun x _ => os.length - x.toNat) ⟨0, _, M, T, rfl, Nat.zero_le _, rfl, hPlay14⟩ ?_
  clear hPlay hPlay12 hPlay14 himm hmutM hVall hDall
  rintro _ w15 again ⟨k, V, M, T', rfl, hk, hTl, H⟩ hag
  rw [← hTl]
  have E15 := E3.trans H.p.e0
  refine cond_i (fun hlt => ?_) (fun hge => hK w15 E15)
  have hlt : k < os.length := by have : (k : Int) < (p1.len : Int) := of_decide_eq_true hlt
                                 omega
  have hwk : IntKind.wrap .i64 ((k : Int) + 1) = ((k + 1 : Nat) : Int) := wrap_nat (n := k + 1) (by omega)
  refine vop_at hp E15 hlt fun go w16 e16 hgo v16 => ?_
  have hook := hp.ok _ (List.getElem_mem hlt)
  generalize os[k]'hlt = o at hook v16
  have H16 := H.ext e16
  refine ld1_i (l := .slc) (o := 2) o.dat.1 v16 rfl ?_
  have hodl := Bts.len hook.dat
  refine cond_i (fun _ => hK w16 (E15.trans e16)) (fun h300 => ?_)
  have h300 : ¬ (o.dat.1.len : Int) > 300 := of_decide_eq_false h300
  refine ld1_i (l := .int .i64) (o := 0) o.kind v16 rfl ?_
  refine cond_i (fun hk1 => ?_) (fun hk1 => ?_)
  · obtain ⟨pa, hpa⟩ := H16.list.some (by have := H16.rd.one; omega)
    have hdr := Ext.drew w16
    refine ⟨fun z => Ext w16 z, hdr, ?_⟩
    refine ixQ_i hpa (by omega) (by have := H16.rd.one; omega) ?_
    refine ldVQ_i (n := 4) (ls := lO) 0 (fun z hz => v16.ext hz) (Nat.le_refl 4) ?_
    rw [← hXgd]
    have ho3 : o.Ok w3 := ⟨hook.kind, hook.i, hook.dat.ext E3⟩
    refine playTurn_s (o := o) (H16.ext hdr) ho3 (by omega) hpa fun w17 H17 => ?_
    rw [hwk]
    exact hag _ w17 ⟨k + 1, V, M, T'.turn o, rfl, by omega, hTl, H17⟩ (by omega)
  refine ld1_i (l := .int .i64) (o := 1) o.i v16 rfl ?_
  have hI := hook.i
  refine playRead_s H16 x1 x2 hq (hFe _ _) hI fun want w17 M' f17 m17 hpM hallM hmutM hwB hwin => ?_
  have hgo17 : Var w17 go o.cells := v16.fr f17 fun hm => by
    have := H.m.mlt hm; omega
  refine ld1_i (l := .int .i64) (o := 1) o.i hgo17 rfl ?_
  have P17 := H16.p.fr f17 (fun k hk hm => H16.sMD k (.inl hm) hk) H16.mlo
  have V17 := H16.v.fr f17 fun k hk hm => H16.sVM k (.inl hm) hk
  refine vRead_s V17 P17 x1 ht3 H16.ok hI fun rb w18 V' f18 P18 V18 hpV hallV orb hrbs => ?_
  have hD : ∀ k, L.inD X.gd k → k < w16.heap.size := fun k hk => H16.p.in hk
  have s17 := f17.size
  have s18 := f18.size
  have hM'in : ∀ k, M'.all X' k → k < w17.heap.size := fun k hk => m17.in hk
  have hM'D : ∀ k, M'.all X' k → ¬ L.inD X.gd k := fun k hk hd => by
    rcases hallM k hk with h | h | h
    · exact H16.sMD k (.inl h) hd
    · exact H16.sMD k (.inr h) hd
    · have := hD k hd; omega
  have hM'V : ∀ k, M'.all X' k → ¬ V.all X k := fun k hk hd => by
    rcases hallM k hk with h | h | h
    · exact H16.sVM k (.inl h) hd
    · exact H16.sVM k (.inr h) hd
    · have := (H16.v.in hd).2; omega
  have hM'fr : ∀ k, M'.all X' k → ¬ (k = X.gd ∨ V.mut X k) := fun k hk hc => hc.elim (fun e => hM'D k hk (.inl e)) fun hm => hM'V k hk (.inl hm)
  have hTfr : ∀ k, T'.all k → ¬ (k = X.gd ∨ V.mut X k) := fun k hk hc => hc.elim (fun e => H16.sTD k hk (.inl e)) fun hm => H16.sTV k hk (.inl hm)
  have m18 := m17.fr f18 hM'fr
  have want18 : Bts w18 want _ := hwB.fr f18 fun a ha' => hM'fr _ (.inr (hwin _ ⟨a, ha', rfl⟩))
  obtain ⟨okV, _, _⟩ := vread_ok x1.q (fun p h1 h2 h3 => VX.F_len x1 p h1 h2 h3) (F := X.F T'.b (S.bfn T'.bads)) (R := V.pure) H16.ok o.i
  generalize hRR : vread (X.F T'.b (S.bfn T'.bads)) X.q V.pure o.i = R at hpM hpV hwB want18 orb okV
  have hsame : M'.pure = V'.pure := by rw [hpM, hpV]
  have hTlt : ∀ k, T'.all k → k < w16.heap.size := fun k hk => H16.tlt hk
  have list17 := H16.list.fr f17 fun a ha' hm => H16.sTM _ (.inl ⟨a, ha', rfl⟩) (.inl hm)
  have od17 := Own.fr H16.od f17 fun a ha' hm => H16.sTM _ (.inr (.inl ⟨a, ha', rfl⟩)) (.inl hm)
  have ob17 := H16.ob.fr f17 fun a ha' hm => H16.sTM _ (.inr (.inr ⟨a, ha', rfl⟩)) (.inl hm)
  have H18 : Play w3 w18 B L X X' V' M' T' := by
    refine ⟨P18, V18, m18, ?_, hsame, list17.fr f18 fun a ha' => hTfr _ (.inl ⟨a, ha', rfl⟩), Own.fr od17 f18 fun a ha' => hTfr _ (.inr (.inl ⟨a, ha', rfl⟩)), ob17.fr f18 fun a ha' => hTfr _ (.inr (.inr ⟨a, ha', rfl⟩)), H16.size, fun k hk => ?_, fun k hk hc => ?_, hM'D, H16.sTD, fun k hk hc => ?_, fun k hk hc => ?_, H16.apD, H16.apL⟩
    · rw [show knP V'.kn = R.2.2.known from congrArg Vr.known hpV]; exact okV
    · rcases hmutM k hk with h | h
      · exact H16.mlo k h
      · have := H16.p.e0.size; omega
    · rcases hallV k hc with h | h | h
      · exact hM'V k hk (.inl h)
      · exact hM'V k hk (.inr h)
      · have := hM'in k hk; omega
    · rcases hallV k hc with h | h | h
      · exact H16.sTV k hk (.inl h)
      · exact H16.sTV k hk (.inr h)
      · have := hTlt k hk; omega
    · rcases hallM k hc with h | h | h
      · exact H16.sTM k hk (.inl h)
      · exact H16.sTM k hk (.inr h)
      · have := hTlt k hk; omega
  have hbr : M'.broken = V'.broken := congrArg Vr.broken hsame
  have htrc : M'.trc.map (·.2) = V'.trc.map (·.2) := congrArg Vr.trace hsame
  have hdr := Ext.drew w18
  refine ⟨fun z => Ext w18 z, hdr, ?_⟩
  refine cond_i (fun h => by simp at h) (fun _ => ?_)
  refine b2sQ_i (fun z hz => (Own.ext orb hz).rd) ?_
  refine b2sQ_i (fun z hz => want18.ext hz) ?_
  refine cond_i (fun h => by simp at h) (fun _ => ?_)
  refine ld1Q_i (l := .bool) (o := 15) M'.broken (fun z hz => (H18.m.ext hz).var) rfl ?_
  refine vBroken_s (H18.ext hdr).v ?_
  refine more_i hdr ?_
  rw [hbr]
  refine cond_i (fun h => by simp at h) (fun _ => ?_)
  refine ld1Q_i (l := .slc) (o := 16) M'.tr (fun z hz => (H18.m.ext hz).var) rfl ?_
  have htl : V'.trc.length ≤ 1000000 ∧ R.1.length ≤ 4096 := by
    have h1 : V'.trc.map (·.2) = R.2.2.trace := congrArg Vr.trace hpV
    have hxe := R1.xe
    have hh := S.Shp.h_le (SV.xok ha)
    obtain ⟨_, a1, a2⟩ := vread_ok x1.q (fun p h1 h2 h3 => VX.F_len x1 p h1 h2 h3) (F := X.F T'.b (S.bfn T'.bads)) (R := V.pure) H16.ok o.i
    rw [hRR] at a1 a2
    by_cases hz : R.2.1 = 0
    · obtain ⟨n, _, _, hw, hr0⟩ := a2 hz
      have h2 := hw.len
      have h3 := congrArg List.length h1
      rw [List.length_map, h2] at h3
      have hqx : X.q.x = y.x := by rw [R1.qe]
      rw [hqx] at h3
      refine ⟨by omega, ?_⟩
      have := hw.each _ (List.mem_of_getElem? hr0)
      rw [this, hqx]
      exact (SV.xok ha).b2
    · obtain ⟨b1, b2⟩ := a1 hz
      rw [b2] at h1
      have h3 := congrArg List.length h1
      rw [List.length_map] at h3
      exact ⟨by rw [h3]; simp, by rw [b1]; simp⟩
  refine vTrace_s (H18.ext hdr).v htl.1 fun tv w19 xs e19 px hxs => ?_
  have e1819 := hdr.trans e19
  refine more_i e1819 ?_
  have hxl : xs.length = V'.trc.length := by have := congrArg List.length hxs; rwa [List.length_map, List.length_map] at this
  have m19 := H18.m.ext e1819
  refine bytes_s px ⟨m19.tr, fun x hxm => (m19.trc x hxm).1⟩ (by omega) fun w20 e20 => ?_
  rw [decide_eq_true (show xs.map (·.2) = M'.trc.map (·.2) by rw [hxs, htrc])]
  have e1820 := e1819.trans e20
  refine plays_t1 (bs := R.1) (H18.ext e1820) (Own.ext orb e1820) (fun j hj => ?_) htl.2 (by omega) fun w' Hf => ?_
  · have q := orb.inB hj
    have h3s := H16.p.e0.size
    exact ⟨by omega, fun hd => by have := hD j hd; omega, hrbs j hj, fun hm => by have := hM'in j hm; omega, fun ht => by have := hTlt j ht; omega⟩
  · exact hag _ w' ⟨k + 1, V', M', T', rfl, by omega, hTl, Hf⟩ (by omega)
end
end Go.Proofs.YteopoodhclljjaaGreatDoor
