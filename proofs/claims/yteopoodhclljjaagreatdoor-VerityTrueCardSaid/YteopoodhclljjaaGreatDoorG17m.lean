/- Layer 17 (verity): the laws' steps: the partition as the document has it, and a step on both. / Layer 17 (verity): the laws VerityMost and VerityFair. -/
import Derived.Test.YteopoodhclljjaaGreatDoorG17l
import Derived.Test.YteopoodhclljjaaGreatDoorG17k
import Derived.Test.YteopoodhclljjaaGreatDoorG17j
set_option linter.unusedSimpArgs false
set_option linter.unusedVariables false
/-! Ver17g -/
namespace Go.Proofs.YteopoodhclljjaaGreatDoor
open Go Go.Eng
open Go.S (Pl Kn Vq Vr klook vfirst vblk vput)
/-! ### steps -/
structure VOp where
  kind : Int
  i : Int
  dat : Sl × List UInt8
  on : Bool
def VOp.cells (o : VOp) : List Value := [.int .i64 o.kind, .int .i64 o.i, slV o.dat.1, .bool o.on]
structure VOp.Ok (w : World) (o : VOp) : Prop where
  kind : S.I64 o.kind
  i : S.I64 o.i
  dat : Bts w o.dat.1 o.dat.2
structure VOpsIn (w : World) (s : Sl) (os : List VOp) : Prop where
  rds : Rds w s 4 (os.map VOp.cells)
  ok : ∀ o ∈ os, o.Ok w
theorem ops17_of {W : World} {s : Sl} {css : List (List Value)} (hr : Rds W s 4 css) (hk : ∀ c ∈ css, KindsR W [.int .i64, .int .i64, .bts, .bool] c) : ∃ os : List VOp, VOpsIn W s os := by
  obtain ⟨os, rfl, ho⟩ := each_of VOp.cells (fun o => o.Ok W) (fun c hc => by
    obtain ⟨v1, c, rfl, h1, hc⟩ := kinds_cons hc
    obtain ⟨v2, c, rfl, h2, hc⟩ := kinds_cons hc
    obtain ⟨v3, c, rfl, h3, hc⟩ := kinds_cons hc
    obtain ⟨v4, c, rfl, h4, hc⟩ := kinds_cons hc
    obtain rfl := kinds_nil hc
    obtain ⟨a1, rfl, q1⟩ := ok_int h1
    obtain ⟨a2, rfl, q2⟩ := ok_int h2
    obtain ⟨a3, rfl, q3⟩ := ok_bts h3
    obtain ⟨a4, rfl⟩ := ok_bool h4
    exact ⟨⟨a1, a2, a3, a4⟩, rfl, ⟨wf_i64 q1, wf_i64 q2, q3⟩⟩) css hk
  exact ⟨os, hr, ho⟩
theorem vop_one (o : VOp) : ∀ v ∈ o.cells, v.oneCell' = true := fun v hv => by
  simp only [VOp.cells, List.mem_cons, List.not_mem_nil, or_false] at hv
  rcases hv with rfl | rfl | rfl | rfl <;> rfl
abbrev lO : List Lf := [.int .i64, .int .i64, .slc, .bool]
/-- 'o := ops[i]', a variable of its own. -/
theorem vop_at {w w0 : World} {s : Sl} {os : List VOp} {i : Nat} (h : VOpsIn w0 s os) (e0 : Ext w0 w) (hi : i < os.length) {K : Addr → World → Prop}
    (hK : ∀ g w', Ext w w' → w.heap.size ≤ g → Var w' g (os[i].cells) → K (at_ g 0) w') :
    semS Tryz.prog (Instr.indexAt 25 (.slice s.a s.len s.cap) (.int .i64 (i : Int))) (.one .adr) (fun x13 w =>
      semS Tryz.prog (Instr.loadAt 55 (.pointer (some x13))) (.agg lO) (fun x14 x15 x16 x17 w =>
      semS Tryz.prog (Instr.alloc 55 true (.tuple #[])) (.one .adr) (fun x21 w =>
      semU Tryz.prog (Instr.storeAt 55 (.pointer (some x21)) (.agg #[(.int .i64 x14), (.int .i64 x15), (.slice x16.a x16.len x16.cap), (.bool x17)])) (fun w => K x21 w) w) w) w) w := by
  have hr := h.rds.ext e0
  have hsl : s.len = os.length := by have := hr.len; simp at this; omega
  obtain ⟨a, ha⟩ := hr.some (by omega)
  have hp : (os.map VOp.cells)[i]? = some os[i].cells := by simp [hi]
  refine ix_i ha (by omega) (by omega) ?_
  refine ldA_i (n := 4) (ls := lO) (cs := os[i].cells) rfl (fun j v hv => by rw [Int.toNat_natCast]; exact hr.elem ha hp j v hv) ?_
  show semS Tryz.prog _ _ _ _
  refine alloc_i fun g w1 e1 hg v1 => ?_
  refine stV_i (n := 4) (vs := os[i].cells) 0 v1 rfl (Nat.le_refl 4) (vop_one _) fun w2 f2 v2 => ?_
  have v2 : Var w2 g (os[i].cells) := v2
  exact hK g w2 (Fr.own1 e1 f2 hg) hg v2
def turnB (o : VOp) (b : List UInt8) : List UInt8 := if o.kind = 2 ∧ S.within o.i o.dat.2.length b.length = true then S.xorAt b o.dat.2 o.i.toNat else b
def turnS (o : VOp) (b : List UInt8) (bad : Int → Bool) : Int → Bool := if o.kind = 3 ∧ badOn b o.i = true then fun k => if k = o.i then o.on else bad k else bad
def turnL (o : VOp) (b : List UInt8) (bads : List Bool) : List Bool := if o.kind = 3 ∧ badOn b o.i = true then bads.set o.i.toNat o.on else bads
theorem turnB_len (o : VOp) (b : List UInt8) : (turnB o b).length = b.length := by
  unfold turnB
  split
  · exact S.xorAt_length _ _ _
  · rfl
theorem badOn_iff {b : List UInt8} {s : Int} : badOn b s = true ↔ 0 ≤ s ∧ s < (b.length : Int) / 64 := by
  unfold badOn
  rw [Bool.not_eq_true', decide_eq_false_iff_not]
  omega
section
variable {w0 w w' : World} {B gd : Nat} {L : Lay} {b : List UInt8} {bad : Int → Bool}
theorem turn17_s {o : VOp} {pa : Addr} {ds bs : Sl} {b' : List UInt8} {bads : List Bool} {D0 : Nat} {K : World → Prop} (hP : P1 w0 w B gd L b bad) (ho : o.Ok w) (ho3 : o.dat.2.length ≤ 300) (hdat : o.dat.2 ≠ [] → ∀ a, o.dat.1.a = some a → ¬ L.inD gd a.block ∧ ¬ ds.inB a.block)
    (c1 : w.cell? (pa.add 1) = some (slV ds)) (c2 : w.cell? (pa.add 2) = some (slV bs)) (od : OwnB w D0 ds b') (ob : Own w D0 bs 1 (bads.map Value.bool)) (hl : b'.length = b.length) (hbl : bads.length = b.length / 64)
    (hsep : ∀ k, (ds.inB k ∨ bs.inB k) → ¬ L.inD gd k ∧ k ≠ pa.block ∧ w0.heap.size ≤ k) (hdb : ∀ k, ds.inB k → ¬ bs.inB k) (hpa : ¬ L.inD gd pa.block)
    (hK : ∀ w', Fr (fun k => L.inD gd k ∨ ds.inB k ∨ bs.inB k) w w' → P1 w0 w' B gd L (turnB o b) (turnS o b bad) → OwnB w' D0 ds (turnB o b') → Own w' D0 bs 1 ((turnL o b bads).map Value.bool) → K w') :
    callS Tryz.prog 14 #[.pointer (some (at_ gd 0)), .pointer (some pa), .agg #[.int .i64 o.kind, .int .i64 o.i, .slice o.dat.1.a o.dat.1.len o.dat.1.cap, .bool o.on]] [] K w := by
  refine f14_ok ?_
  unfold f14
  refine box_i fun g w1 e1 hg v1 => ?_
  have v1 : Var w1 g o.cells := v1
  have hdl := Bts.len ho.dat
  have hi := ho.i
  have hble := hP.len
  have hP1 := hP.ext e1
  have s1 := e1.size
  have hgD : ∀ k, L.inD gd k → k ≠ g := fun k hk e => by have := hP.in hk; omega
  have c1' : w1.cell? (pa.add 1) = some (slV ds) := e1.cell c1 id
  have c2' : w1.cell? (pa.add 2) = some (slV bs) := e1.cell c2 id
  have od1 := Own.ext od e1
  have ob1 := ob.ext e1
  refine ld1_i (l := .int .i64) (o := 0) o.kind v1 rfl ?_
  refine cond_i (fun h2 => ?_) (fun h2 => ?_)
  · have hk2 : o.kind = 2 := by simpa using h2
    have eS : turnS o b bad = bad := by unfold turnS; rw [if_neg (fun h => by omega)]
    have eL : turnL o b bads = bads := by unfold turnL; rw [if_neg (fun h => by omega)]
    rw [eS, eL] at hK
    refine ld1_i (l := .int .i64) (o := 1) o.i v1 rfl ?_
    refine ld1_i (l := .slc) (o := 2) o.dat.1 v1 rfl ?_
    refine pTurn_s hP1 rfl hi (ho.dat.ext e1) (by omega) (fun hne a ha => (hdat hne a ha).1) fun w2 f2 P2 => ?_
    have F2 : Fr (fun k => L.inD gd k ∨ ds.inB k ∨ bs.inB k) w w2 := e1.fr.trans f2 fun k _ hk => .inl hk
    have od2 := Own.fr od1 f2 fun a ha hk => (hsep _ (.inl ⟨a, ha, rfl⟩)).1 hk
    have ob2 := ob1.fr f2 fun a ha hk => (hsep _ (.inr ⟨a, ha, rfl⟩)).1 hk
    have v2 : Var w2 g o.cells := v1.fr f2 fun hk => hgD _ hk rfl
    refine cond_i (fun hw => ?_) (fun hw => ?_)
    · have hw : S.within o.i o.dat.2.length b.length = true := hw
      have eB : turnB o b = S.xorAt b o.dat.2 o.i.toNat := by unfold turnB; rw [if_pos ⟨hk2, hw⟩]
      have eB' : turnB o b' = S.xorAt b' o.dat.2 o.i.toNat := by unfold turnB; rw [if_pos ⟨hk2, by rw [hl]; exact hw⟩]
      rw [eB, eB'] at hK
      rw [if_pos hw] at P2
      obtain ⟨q1, q2, q3, q4, q5⟩ := S.within_iff.1 hw
      have c12 : w2.cell? (pa.add 1) = some (slV ds) := f2.cell c1' (by rw [add_block]; exact hpa)
      refine ld1_i (l := .slc) (o := 2) o.dat.1 v2 rfl ?_
      refine loop_i (fun (x : Int) w' => ∃ k : Nat, x = k ∧ k ≤ o.dat.2.length ∧ Fr ds.inB w2 w' ∧ OwnB w' D0 ds (S.xorAt b' (o.dat.2.take k) o.i.toNat)) (fun x _ => o.dat.2.length - x.toNat) ⟨0, rfl, Nat.zero_le _, Fr.refl _ _, by rw [List.take_zero, S.xorAt_nil]; exact od2⟩ ?_
      rintro _ w3 again ⟨k, rfl, hk, f3, o3⟩ hag
      have f3w : ∀ j, ds.inB j → w0.heap.size ≤ j := fun j hj => (hsep j (.inl hj)).2.2
      have hdsD : ∀ j, ds.inB j → ¬ L.inD gd j := fun j hj => (hsep j (.inl hj)).1
      refine cond_i (fun hlt => ?_) (fun hge => ?_)
      · have hlt : k < o.dat.2.length := by have : (k : Int) < (o.dat.1.len : Int) := of_decide_eq_true hlt
                                            omega
        have hne : o.dat.2 ≠ [] := fun h => by rw [h] at hlt; simp at hlt
        have hdw : Bts w3 o.dat.1 o.dat.2 := ((ho.dat.ext e1).fr f2 fun a ha hk => (hdat hne a ha).1 hk).fr f3 fun a ha hk => (hdat hne a ha).2 hk
        refine elem_i (l := .int .u8) (x := ((o.dat.2[k]'hlt).toNat : Int)) hdw (by omega) (by omega) (by rw [Int.toNat_natCast]; exact bytes_get hlt) ?_
        have hgds : ¬ ds.inB g := fun h => by have := (od.inB h).2; omega
        have v3 : Var w3 g o.cells := v2.fr f3 hgds
        have c13 : w3.cell? (pa.add 1) = some (slV ds) := f3.cell c12 (by rw [add_block]; exact fun h => (hsep _ (.inl h)).2.1 rfl)
        have hd := Ext.drew w3
        refine ⟨fun y => Ext w3 y, hd, ?_⟩
        refine nil_i rfl ?_
        refine ldQ_i (l := .slc) ds (fun y hy => hy.cell c13 id) ?_
        refine ld1Q_i (l := .int .i64) (o := 1) o.i (fun y hy => v3.ext hy) rfl ?_
        have hwx : IntKind.wrap .i64 (o.i + (k : Int)) = ((o.i.toNat + k : Nat) : Int) := by rw [wrap_i64 (by omega) (by omega)]; omega
        rw [hwx]
        have hdsl := OwnB.len o3
        rw [S.xorAt_length] at hdsl
        obtain ⟨ad, had⟩ := o3.rd.some (by omega)
        have hix : o.i.toNat + k < (S.xorAt b' (o.dat.2.take k) o.i.toNat).length := by rw [S.xorAt_length]; omega
        have hgx : (S.xorAt b' (o.dat.2.take k) o.i.toNat)[o.i.toNat + k]? = some (b'.getD (o.i.toNat + k) 0) := by
          rw [S.xorAt_get (by omega), if_neg (by simp; omega)]
        refine elemQ_i (l := .int .u8) (x := ((b'.getD (o.i.toNat + k) 0).toNat : Int)) had (fun y hy => (Own.ext o3 hy).rd) (by omega) (by omega) (by rw [Int.toNat_natCast]; exact bytes_get? hgx) ?_
        refine ixQ_i had (by omega) (by omega) ?_
        rw [Int.toNat_natCast, Nat.mul_one]
        have hxor : xorI .u8 ((b'.getD (o.i.toNat + k) 0).toNat : Int) ((o.dat.2[k]'hlt).toNat : Int) = (((b'.getD (o.i.toNat + k) 0) ^^^ o.dat.2.getD k 0).toNat : Int) := by
          rw [xor_u8 (UInt8.toNat_lt _) (UInt8.toNat_lt _), UInt8.toNat_xor]
          simp [hlt]
        rw [hxor]
        obtain ⟨⟨vv, hvv⟩, hfz, f4, o4⟩ := (Own.ext o3 hd).set had (i := o.i.toNat + k) (by omega) (vB ((b'.getD (o.i.toNat + k) 0) ^^^ o.dat.2.getD k 0))
        refine st_i hvv hfz rfl ?_
        have hwk : IntKind.wrap .i64 ((k : Int) + 1) = ((k + 1 : Nat) : Int) := wrap_nat (n := k + 1) (by omega)
        rw [hwk]
        refine hag _ _ ⟨k + 1, rfl, by omega, (f3.then hd).trans' f4, ?_⟩ (by omega)
        rw [S.xorAt_step (by omega) hlt]
        unfold OwnB
        rw [List.map_set]; exact o4
      · have hge : k = o.dat.2.length := by have : ¬ (k : Int) < (o.dat.1.len : Int) := of_decide_eq_false hge
                                            omega
        subst hge
        rw [List.take_length] at o3
        exact hK w3 (F2.trans f3 fun k _ hk => .inr (.inl hk)) (P2.fr f3 (fun k hk hd => hdsD k hd hk) f3w) o3 (ob2.fr f3 fun a ha hd => hdb _ hd ⟨a, ha, rfl⟩)
    · have hw : ¬ S.within o.i o.dat.2.length b.length = true := by rw [show S.within o.i o.dat.2.length b.length = false from hw]; simp
      have eB : turnB o b = b := by unfold turnB; rw [if_neg (fun h => hw h.2)]
      have eB' : turnB o b' = b' := by unfold turnB; rw [if_neg (fun h => hw (by rw [← hl]; exact h.2))]
      rw [eB, eB'] at hK
      rw [if_neg hw] at P2
      exact hK w2 F2 P2 od2 ob2
  · have hk2 : o.kind ≠ 2 := by simpa using h2
    have eB : turnB o b = b := by unfold turnB; rw [if_neg (fun h => hk2 h.1)]
    have eB' : turnB o b' = b' := by unfold turnB; rw [if_neg (fun h => hk2 h.1)]
    rw [eB, eB'] at hK
    refine cond_i (fun h3 => ?_) (fun h3 => ?_)
    · have hk3 : o.kind = 3 := by simpa using h3
      refine ld1_i (l := .int .i64) (o := 1) o.i v1 rfl ?_
      refine ld1_i (l := .bool) (o := 3) o.on v1 rfl ?_
      refine pBad_s (on := o.on) hP1 rfl hi fun w2 f2 P2 => ?_
      have F2 : Fr (fun k => L.inD gd k ∨ ds.inB k ∨ bs.inB k) w w2 := e1.fr.trans f2 fun k _ hk => .inl hk
      have od2 := Own.fr od1 f2 fun a ha hk => (hsep _ (.inl ⟨a, ha, rfl⟩)).1 hk
      have ob2 := ob1.fr f2 fun a ha hk => (hsep _ (.inr ⟨a, ha, rfl⟩)).1 hk
      have v2 : Var w2 g o.cells := v1.fr f2 fun hk => hgD _ hk rfl
      refine cond_i (fun hb => ?_) (fun hb => ?_)
      · have hb : badOn b o.i = true := hb
        have eS : turnS o b bad = fun k => if k = o.i then o.on else bad k := by unfold turnS; rw [if_pos ⟨hk3, hb⟩]
        have eL : turnL o b bads = bads.set o.i.toNat o.on := by unfold turnL; rw [if_pos ⟨hk3, hb⟩]
        rw [eS, eL] at hK
        rw [if_pos hb] at P2
        have hbi := badOn_iff.1 hb
        have c22 : w2.cell? (pa.add 2) = some (slV bs) := f2.cell c2' (by rw [add_block]; exact hpa)
        have hd := Ext.drew w2
        refine ⟨fun y => Ext w2 y, hd, ?_⟩
        refine nil_i rfl ?_
        refine ldQ_i (l := .slc) bs (fun y hy => hy.cell c22 id) ?_
        refine ld1Q_i (l := .int .i64) (o := 1) o.i (fun y hy => v2.ext hy) rfl ?_
        refine ld1Q_i (l := .bool) (o := 3) o.on (fun y hy => v2.ext hy) rfl ?_
        have hbsl : bs.len = bads.length := by have := ob2.len; rw [List.length_map] at this; omega
        obtain ⟨ab, hab⟩ := ob2.rd.some (by omega)
        refine ixQ_i hab (by omega) (by omega) ?_
        rw [Nat.mul_one]
        obtain ⟨⟨vv, hvv⟩, hfz, f4, o4⟩ := (ob2.ext hd).set hab (i := o.i.toNat) (by omega) (.bool o.on)
        refine st_i hvv hfz rfl ?_
        refine hK _ ((F2.then hd).trans f4 fun k _ hk => .inr (.inr hk)) ((P2.ext hd).fr f4 (fun k hk hd => (hsep k (.inr hd)).1 hk) fun k hk => (hsep k (.inr hk)).2.2) ((Own.ext od2 hd).fr f4 fun a ha hd => hdb _ ⟨a, ha, rfl⟩ hd) ?_
        rw [List.map_set]; exact o4
      · have hb : ¬ badOn b o.i = true := by rw [show badOn b o.i = false from hb]; simp
        have eS : turnS o b bad = bad := by unfold turnS; rw [if_neg (fun h => hb h.2)]
        have eL : turnL o b bads = bads := by unfold turnL; rw [if_neg (fun h => hb h.2)]
        rw [eS, eL] at hK
        rw [if_neg hb] at P2
        exact hK w2 F2 P2 od2 ob2
    · have hk3 : o.kind ≠ 3 := by simpa using h3
      have eS : turnS o b bad = bad := by unfold turnS; rw [if_neg (fun h => hk3 h.1)]
      have eL : turnL o b bads = bads := by unfold turnL; rw [if_neg (fun h => hk3 h.1)]
      rw [eS, eL] at hK
      exact hK w1 e1.fr hP1 od1 ob1
theorem part17_s {K : ByteArray → Sl → Sl → World → Prop} (hP : P1 w0 w B gd L b (fun _ => false))
    (hK : ∀ (ds bs : Sl) w', Fr (fun k => k = gd) w w' → P1 w0 w' B gd L b (fun _ => false) → OwnB w' w.heap.size ds b → Own w' w.heap.size bs 1 ((List.replicate (b.length / 64) false).map Value.bool) → (∀ k, ds.inB k → ¬ bs.inB k) → K (str pn) ds bs w') :
    callS Tryz.prog 9 #[.pointer (some (at_ gd 0))] [.agg [.str, .slc, .slc]] K w := by
  refine f9_ok ?_
  unfold f9
  have hble := hP.len
  refine alloc_i fun g w1 e1 hg v1 => ?_
  have hP1 := hP.ext e1
  obtain ⟨c, n, hd⟩ := hP1.at_
  refine dSize_s (name := str pn) hd ?_
  have hsz : (S.one pn b (fun _ => false) (-1) [] false c n).size (str pn).toList = ((b.length : Int), 0) := by
    rw [str_toList]
    unfold S.Drv.size
    rw [S.at?_one]; rfl
  rw [hsz]
  simp only
  refine pRead_s (off := 0) hP1 rfl ⟨by omega, by omega⟩ ⟨by omega, by omega⟩ fun v w2 f2 P2 o2 => ?_
  have hp : S.pread b (fun _ => false) 0 (b.length : Int) = (b, 0) := by
    have := S.pread_ok (b := b) (bad := fun _ => false) (p := 0) (k := b.length) (by omega) S.badIn_no
    rw [show ((0 : Nat) : Int) = 0 from rfl] at this
    rw [this, List.drop_zero, List.take_length]
  rw [hp] at o2
  have hq : IntKind.wrap .i64 (Int.tdiv (b.length : Int) 64) = ((b.length / 64 : Nat) : Int) := by rw [show (64 : Int) = ((64 : Nat) : Int) from rfl, S.tdiv_n]; exact wrap_nat (by omega)
  rw [hq]
  refine make_i (by omega) (by omega) fun s w3 e3 o3 hsl => ?_
  rw [Int.toNat_natCast] at o3
  have hz : (Builtin.zeroCells (Value.bool false).cells (b.length / 64)).toList = List.replicate (b.length / 64) (Value.bool false) := zeroCells_one _ _
  rw [hz] at o3
  have s1 := e1.size
  have s2 := f2.size
  have s3 := e3.size
  have hgd := hP.in (.inl rfl : L.inD gd gd)
  have v3 := (v1.fr f2 (by omega)).ext e3
  refine stV_i (n := 3) (vs := partC v s) 0 v3 rfl (Nat.le_refl 3) (fun u hu => by
    simp only [partC, List.mem_cons, List.not_mem_nil, or_false] at hu
    rcases hu with rfl | rfl | rfl <;> rfl) fun w4 f4 v4 => ?_
  have v4 : Var w4 g (partC v s) := v4
  have hgl := v1.lt
  have hvg : ∀ k, v.inB k → k ≠ g := fun k hk e => by have := (o2.inB hk).1; omega
  have hsg : ∀ k, s.inB k → k ≠ g := fun k hk e => by have := (o3.inB hk).1; omega
  refine resV_i (n := 3) v4 rfl ?_
  have F : Fr (fun k => k = gd) w w4 := by
    have a1 : Fr (fun k => k = gd ∨ k = g) w w4 := (((e1.fr : Fr (fun k => k = gd ∨ k = g) w w1).trans f2 fun k _ hk => .inl hk).then e3).trans f4 fun k _ hk => .inr hk
    exact a1.mono fun k hk hc => hc.elim id fun h => by omega
  refine hK v s w4 F ((P2.ext e3).fr f4 (fun k hk e => by have := hP.in hk; omega) fun k hk => by have := hP.e0.size; omega) (((Own.ext o2 e3).fr f4 fun a ha => hvg _ ⟨a, ha, rfl⟩).base s1) ?_ fun k hk hs => ?_
  · rw [List.map_replicate]
    exact (o3.fr f4 fun a ha => hsg _ ⟨a, ha, rfl⟩).base (by omega)
  · have := (o2.inB hk).2
    have := (o3.inB hs).1
    omega
theorem mkDescr_s {d : DM} {K : Int → Int → Int → Int → Int → Int → ByteArray → Sl → Sl → Sl → Sl → World → Prop} (hK : ∀ w', Ext w w' → K d.kind d.alg d.size d.blk d.off d.loc (str d.name) d.salt.1 d.dig.1 d.key.1 d.val.1 w') :
    callS Tryz.prog 10 #[.agg d.cells.toArray] [.agg lD] K w := by
  refine f10_ok ?_
  unfold f10
  refine box_i fun g w1 e1 hg v1 => ?_
  have v1 : Var w1 g d.cells := v1
  refine alloc_i fun g2 w2 e2 hg2 v2 => ?_
  refine ldD_i (v1.ext e2) ?_
  refine stD_i (d := d) v2 rfl fun w3 f3 v3 => ?_
  exact resD_i v3 (hK w3 (e1.trans (Fr.own1 e2 f3 hg2)))
end
end Go.Proofs.YteopoodhclljjaaGreatDoor

/-! Law17a -/
namespace Go.Proofs.YteopoodhclljjaaGreatDoor
open Go Go.Eng
open Go.S (Pl Kn Vq Vr klook vfirst vblk vput)
section
variable {y : SV}
/-- 'd, x := made(s)', and is there a drive? -/
theorem seed_i {g : Nat} {o1 o2 : Operand} {R : Addr → Option Addr → Bool → World → Prop} {w w0 : World} (v : Var w g y.cells) (hy : y.Ok w) (ht : Tabs9 w0) (e0 : Ext w0 w) (hd : y.data.2.length ≤ 1500)
    (hNil : y.ask ≠ 0 → ∀ g2 w', Ext w w' → R (at_ g2 0) none true w')
    (hOk : y.ask = 0 → ∀ gd L r g2 B w', Ext w w' → (∀ k, L.inD gd k → w.heap.size ≤ k) → P1 w0 w' B gd L y.part (fun _ => false) → w.heap.size ≤ B → B ≤ w'.heap.size → Bts w' r y.root → B ≤ g2 → Var w' g2 (y.d r).cells → (∀ k, r.inB k → ¬ L.inD gd k ∧ w.heap.size ≤ k ∧ k < B) → R (at_ g2 0) (some (at_ gd 0)) false w') :
    semS Tryz.prog (Instr.loadAt 24 (.pointer (some (at_ g 0)))) (.agg lV) (fun x9 x10 x11 x12 x13 w =>
      callS Tryz.prog 7 #[(.agg #[(.int .i64 x9), (.int .i64 x10), (.int .i64 x11), (.slice x12.a x12.len x12.cap), (.slice x13.a x13.len x13.cap)])] [(.one .ptr), (.agg lD)] (fun r14 r15 r16 r17 r18 r19 r20 r21 r22 r23 r24 r25 w =>
      semS Tryz.prog (Instr.alloc 29 true (.tuple #[])) (.one .adr) (fun x26 w =>
      semU Tryz.prog (Instr.storeAt 29 (.pointer (some x26)) (.agg #[(.int .i64 r15), (.int .i64 r16), (.int .i64 r17), (.int .i64 r18), (.int .i64 r19), (.int .i64 r20), (.string r21), (.slice r22.a r22.len r22.cap), (.slice r23.a r23.len r23.cap), (.slice r24.a r24.len r24.cap), (.slice r25.a r25.len r25.cap)])) (fun w =>
      semS Tryz.prog (binS .eql 27 o1 o2 (.pointer r14) (.pointer none)) (.one .bool) (fun x27 w => R x26 r14 x27 w) w) w) w) w) w := by
  refine ldSV_i v ?_
  refine made_s (y := y) hy ht e0 hd (fun ha w1 e1 => ?_) fun ha gd L r w1 e1 hin hP or hrd => ?_
  · refine alloc_i fun g2 w2 e2 hg2 v2 => ?_
    refine stD_i (d := ⟨0, 0, 0, 0, 0, 0, [], (Sl.nil, []), (Sl.nil, []), (Sl.nil, []), (Sl.nil, [])⟩) v2 rfl fun w3 f3 v3 => ?_
    refine ptrEq_i ?_
    exact hNil ha g2 w3 (e1.trans (Fr.own1 e2 f3 hg2))
  · refine alloc_i fun g2 w2 e2 hg2 v2 => ?_
    refine stD_i (d := y.d r) v2 rfl fun w3 f3 v3 => ?_
    refine ptrEq_i ?_
    have e13 : Ext w1 w3 := Fr.own1 e2 f3 hg2
    exact hOk ha gd L r g2 w1.heap.size w3 (e1.trans e13) hin (hP.ext e13) e1.size e13.size (or.rd.ext e13) hg2 v3 fun k hk => ⟨hrd k hk, or.inB hk⟩
theorem small_of {y : SV} (h : y.small = true) : y.salt.2.length ≤ 64 ∧ y.data.2.length ≤ 1500 ∧ y.blk ≤ 4096 := by
  unfold SV.small at h
  simp only [Bool.and_eq_true, decide_eq_true_eq] at h
  exact ⟨h.1.1, h.1.2, h.2⟩
theorem rdWhole {w : World} {g n c : Nat} {cs : List Value} (h : Var w g cs) (hn : n = cs.length) (hc : n ≤ c) : Rd w ⟨some (at_ g 0), n, c⟩ 1 cs :=
  ⟨by simp [hn], hc, (fun h => by cases h), fun a ha i v hv => by cases ha; rw [at_add]; exact h.cell (by simpa using hv)⟩
/-- 'want := make([]byte, s.Block); copy(want, s.Data[i*s.Block:])' -/
theorem want_i {g : Nat} {n : Nat} {K : Sl → World → Prop} {w : World} (v : Var w g y.cells) (hy : y.Ok w) (ha : y.ask = 0) (hd : y.data.2.length ≤ 1500) (hn : n < y.x.c 0)
    (hK : ∀ s w', Ext w w' → Bts w' s (y.x.blk y.H y.data.2 0 n) → K s w') :
    semS Tryz.prog (Instr.loadAt 3 (.pointer (some (at_ g 1)))) (.one (.int .i64)) (fun x54 w =>
      semS Tryz.prog (Instr.makeSlice 22 (.int .i64 x54) (.int .i64 x54)) (.one .slc) (fun x55 w =>
      semS Tryz.prog (Instr.loadAt 22 (.pointer (some (at_ g 4)))) (.one .slc) (fun x56 w =>
      semS Tryz.prog (Instr.loadAt 3 (.pointer (some (at_ g 1)))) (.one (.int .i64)) (fun x57 w =>
      semS Tryz.prog (Instr.sliceAt 22 (.slice x56.a x56.len x56.cap) (some (.int .i64 (IntKind.wrap .i64 ((n : Int) * x57)))) none none) (.one .slc) (fun x58 w =>
      semS Tryz.prog (Builtin.copy_ #[22, 22] 3 #[(.slice x55.a x55.len x55.cap), (.slice x58.a x58.len x58.cap)]) (.one (.int .i64)) (fun r59 w => K x55 w) w) w) w) w) w) w := by
  have o := SV.xok ha
  have hb1 := o.b1
  have hb2 := o.b2
  have hbb : y.blk = (y.x.bN : Int) := o.b
  have hdl := Bts.len hy.data
  have hfrom : n * y.x.bN < y.x.sN := (S.up_iff (by omega) o.s1).1 (show n < S.up y.x.sN y.x.bN from hn)
  have hsN : y.x.sN = y.data.2.length := rfl
  refine ld1_i (l := .int .i64) (o := 1) y.blk v rfl ?_
  rw [hbb]
  refine makeRow_i (by omega) (by omega) fun b w1 e1 hb v1 => ?_
  rw [Int.toNat_natCast] at v1 ⊢
  have hz : (Builtin.zeroCells (Value.int .u8 0).cells y.x.bN).toList = List.replicate y.x.bN (vB 0) := zeroCells_one _ _
  rw [hz] at v1
  refine ld1_i (l := .slc) (o := 4) y.data.1 (v.ext e1) rfl ?_
  refine ld1_i (l := .int .i64) (o := 1) y.blk (v.ext e1) rfl ?_
  have hw : IntKind.wrap .i64 ((n : Int) * y.blk) = ((n * y.x.bN : Nat) : Int) := by rw [hbb, ← Int.natCast_mul]; exact wrap_nat (by omega)
  rw [hw]
  refine slLo_i (by omega) (by omega) ?_
  rw [Int.toNat_natCast]
  have hc := Bts.cutAll (hy.data.ext e1) (l := n * y.x.bN) (by omega)
  refine copyV_i' (o := 0) (bb := b) (dst := ⟨some (at_ b 0), y.x.bN, y.x.bN⟩) (P := Tryz.prog) v1 (fun _ => rfl) (by rw [List.length_replicate]; show 0 + y.x.bN ≤ y.x.bN; omega) hc bytes_one fun w2 f2 v2 => ?_
  refine hK _ w2 (Fr.own1 e1 f2 hb) ?_
  have hcells : (List.replicate y.x.bN (vB 0)).take 0 ++ ((y.data.2.drop (n * y.x.bN)).map vB).take y.x.bN ++ (List.replicate y.x.bN (vB 0)).drop (0 + min ((y.data.2.drop (n * y.x.bN)).map vB).length y.x.bN) = (y.x.blk y.H y.data.2 0 n).map vB := by
    show _ = (S.fit y.x.bN _).map vB
    unfold S.fit
    rw [List.take_zero, List.nil_append, List.map_append, List.map_take, List.map_replicate, List.drop_replicate, List.length_take, List.length_map]
    congr 2; omega
  dsimp only at v2
  rw [hcells] at v2
  exact rdWhole v2 (by rw [List.length_map, S.Shp.blk_len o (SV.len ha)]) (Nat.le_refl _)
end
end Go.Proofs.YteopoodhclljjaaGreatDoor
