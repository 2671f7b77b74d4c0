/- Layer 9 (grove): the law GrovePads. -/
import Derived.Test.YtbmcbjmpogbmeaaDoorLaw09b
import Derived.Test.YtbmcbjmpogbmeaaDoorPure09b
set_option linter.unusedSimpArgs false
set_option linter.unusedVariables false
namespace Go.Proofs.YtbmcbjmpogbmeaaDoor
open Go Go.Eng
theorem pads_all {y : SM} {m : Nat} (hr : y.right = true) (hsm : y.isSmall = true) (hm : m ≤ (y.shp.bN - y.data.2.length % y.shp.bN) % y.shp.bN) :
    askErr y.alg y.salt.2 (shp9 y.alg y.blk (y.data.2 ++ List.replicate m 0)) = 0 ∧
    (shp9 y.alg y.blk (y.data.2 ++ List.replicate m 0)).tree y.H (y.data.2 ++ List.replicate m 0) = y.shp.tree y.H y.data.2 ∧
    (shp9 y.alg y.blk (y.data.2 ++ List.replicate m 0)).root y.H (y.data.2 ++ List.replicate m 0) = y.shp.root y.H y.data.2 := by
  obtain ⟨h1, h2⟩ := SM.right_of hr
  obtain ⟨h3, h4⟩ := SM.small_of hsm
  have o := S.Shp.ok_of h1
  have hb1 := o.b1
  have hb2 := o.b2
  have hs1 := o.s1
  have hsN : y.shp.sN = y.data.2.length := rfl
  have hmB : m < y.shp.bN := Nat.lt_of_le_of_lt hm (Nat.mod_lt _ (by omega))
  have hx : shp9 y.alg y.blk (y.data.2 ++ List.replicate m 0) = ⟨((y.data.2.length + m : Nat) : Int), y.blk, S.dsz y.alg⟩ := by unfold shp9; rw [List.length_append, List.length_replicate]
  have hy : y.shp = ⟨(y.data.2.length : Int), y.blk, S.dsz y.alg⟩ := rfl
  have hc0 : (⟨((y.data.2.length + m : Nat) : Int), y.blk, S.dsz y.alg⟩ : S.Shp).c 0 = (⟨(y.data.2.length : Int), y.blk, S.dsz y.alg⟩ : S.Shp).c 0 := by
    show S.up (y.data.2.length + m) y.shp.bN = S.up y.data.2.length y.shp.bN
    exact S.up_pads (by omega) (by omega) hm
  have hb0 : ∀ i, (⟨((y.data.2.length + m : Nat) : Int), y.blk, S.dsz y.alg⟩ : S.Shp).blk y.H (y.data.2 ++ List.replicate m 0) 0 i = (⟨(y.data.2.length : Int), y.blk, S.dsz y.alg⟩ : S.Shp).blk y.H y.data.2 0 i := fun i => S.fit_take_zeros
  rw [hx]
  refine ⟨askErr_of (SM.dsz_of h1) h2 ?_ rfl, ?_, ?_⟩
  · rw [hy] at h1
    unfold S.Shp.right at h1 ⊢
    simp only [Bool.and_eq_true, decide_eq_true_eq] at h1 ⊢
    obtain ⟨⟨⟨⟨q1, q2⟩, q3⟩, q4⟩, q5⟩ := h1
    refine ⟨⟨⟨⟨by omega, by omega⟩, q3⟩, q4⟩, q5⟩
  · rw [hy]; unfold S.Shp.tree; rw [S.Shp.tr_same hc0 hb0, S.Shp.h_same hc0]
  · rw [hy]; unfold S.Shp.root; rw [S.Shp.blk_same hc0 hb0, S.Shp.h_same hc0]
theorem GrovePads_s {y : SM} {p1 : Int} {K : Bool → World → Prop} {w : World} (hy : y.Ok w) (hp1 : -9223372036854775808 ≤ p1 ∧ p1 ≤ 9223372036854775807) (ht1 : Tabs w) (ht2 : L.Tabs w) (hK : ∀ w', Ext w w' → K true w') :
    callS Tryd.prog 3 #[.agg y.cells.toArray, .int .i64 p1] [.one .bool] K w := by
  refine f3_ok (p0_0 := y.alg) (p0_1 := y.blk) (p0_2 := y.salt.1) (p0_3 := y.data.1) ?_
  unfold f3
  have ht : Tabs9 w := ⟨ht1, ht2⟩
  have hsl := Bts.len hy.salt
  have hdl := Bts.len hy.data
  refine box_i fun g w1 e1 hg v1 => ?_
  have v1 : Var w1 g y.cells := v1
  refine anchor9_s (ht.ext e1) fun w2 e2 => ?_
  refine cond_i (fun h => by cases h) (fun _ => ?_)
  have E2 := e1.trans e2
  have v2 := v1.ext e2
  refine ldM_i v2 ?_
  refine seedShape_s hsl hdl fun w3 e3 => ?_
  refine alloc_i fun gx w4 e4 hgx vx => ?_
  refine stSh_i (x := y.shp) vx rfl fun w5 f5 vx5 => ?_
  have e35 : Ext w3 w5 := Fr.own1 e4 f5 hgx
  have e25 := e3.trans e35
  have E5 := E2.trans e25
  have v5 := v2.ext e25
  have hd := Ext.drew w5
  refine ⟨fun x => Ext w5 x, hd, ?_⟩
  refine ldMQ_i (fun x hx => v5.ext hx) ?_
  refine seedSmall_s hsl hdl fun w6 e6 => ?_
  have e56 := hd.trans e6
  have E6 := E5.trans e56
  have v6 := v5.ext e56
  refine more_i e56 ?_
  have stop : f3_t1 true K (at_ g 0) p1 w6 := by
    unfold f3_t1
    exact cond_i (fun _ => hK w6 E6) (fun h => by cases h)
  refine cond_i (fun _ => stop) (fun hsm => ?_)
  have hsm : y.isSmall = true := by simpa using hsm
  refine cond_i (fun _ => stop) (fun hr => ?_)
  have hr : y.right = true := by simpa using hr
  refine cond_i (fun _ => stop) (fun h0 => ?_)
  have h0 : ¬ p1 < 0 := of_decide_eq_false h0
  obtain ⟨q1, q2⟩ := SM.right_of hr
  obtain ⟨q3, q4⟩ := SM.small_of hsm
  have o := S.Shp.ok_of q1
  have hb1 := o.b1
  have hb2 := o.b2
  have hbN : y.blk = (y.shp.bN : Int) := o.b
  obtain ⟨m, rfl⟩ : ∃ m : Nat, p1 = m := ⟨p1.toNat, by omega⟩
  refine ld1Q_i (l := .int .i64) (o := 1) y.blk (fun x hx => v5.ext hx) rfl (ld1Q_i (l := .slc) (o := 3) y.data.1 (fun x hx => v5.ext hx) rfl (ld1Q_i (l := .int .i64) (o := 1) y.blk (fun x hx => v5.ext hx) rfl ?_))
  refine remQ_i (by omega) ?_
  refine ld1Q_i (l := .int .i64) (o := 1) y.blk (fun x hx => v5.ext hx) rfl ?_
  have hmod := Nat.mod_lt y.data.2.length (show y.shp.bN > 0 by omega)
  have hlim : (IntKind.wrap .i64 (y.blk - (y.data.1.len : Int).tmod y.blk)).tmod y.blk = (((y.shp.bN - y.data.2.length % y.shp.bN) % y.shp.bN : Nat) : Int) := by
    rw [hdl, hbN, S.tmod_n, show (y.shp.bN : Int) - ((y.data.2.length % y.shp.bN : Nat) : Int) = ((y.shp.bN - y.data.2.length % y.shp.bN : Nat) : Int) by omega, wrap_nat (by omega), S.tmod_n]
  refine remQ_i (by omega) ?_
  rw [hlim]
  unfold f3_t1
  refine cond_i (fun _ => hK w6 E6) (fun hle => ?_)
  have hle : m ≤ (y.shp.bN - y.data.2.length % y.shp.bN) % y.shp.bN := by
    have : ¬ (m : Int) > (((y.shp.bN - y.data.2.length % y.shp.bN) % y.shp.bN : Nat) : Int) := of_decide_eq_false hle
    omega
  have hmB : m < y.shp.bN := Nat.lt_of_le_of_lt hle (Nat.mod_lt _ (by omega))
  obtain ⟨p1, p2, p3⟩ := pads_all hr hsm hle
  have ha := SM.ask_of hr
  have hy6 := hy.ext E6
  refine ld1_i (l := .int .i64) (o := 0) y.alg v6 rfl (ld1_i (l := .slc) (o := 2) y.salt.1 v6 rfl (ld1_i (l := .int .i64) (o := 1) y.blk v6 rfl (ld1_i (l := .slc) (o := 3) y.data.1 v6 rfl ?_)))
  refine make_s (ht.ext E6) hy6.salt hy6.data (by omega) (fun h => absurd ha h) fun _ t r w7 e7 ot or => ?_
  have E7 := E6.trans e7
  have v7 := v6.ext e7
  have hd7 := Ext.drew w7
  refine ⟨fun x => Ext w7 x, hd7, ?_⟩
  refine ld1Q_i (l := .int .i64) (o := 0) y.alg (fun x hx => v7.ext hx) rfl (ld1Q_i (l := .slc) (o := 2) y.salt.1 (fun x hx => v7.ext hx) rfl (ld1Q_i (l := .int .i64) (o := 1) y.blk (fun x hx => v7.ext hx) rfl (ld1Q_i (l := .slc) (o := 3) y.data.1 (fun x hx => v7.ext hx) rfl ?_)))
  refine buildSlice_i (sz := 1) #[] (by simp [Instr.fill]) (by simp) (by omega) fun v w8 e8 o8 hl8 => ?_
  have e78 := hd7.trans e8
  refine more_i e78 ?_
  have o8 : OwnB w8 w7.drew.heap.size v [] := o8
  refine appendB_i o8 (hy.data.ext (E7.trans e78)) (by simp; omega) e8.size fun v9 w9 f9 o9 hin9 => ?_
  have e89 : Ext w7 w9 := (Ext.own e8 f9 fun i hi => (o8.inB hi).1) |> fun e => hd7.trans e
  refine more_i e89 ?_
  rw [List.nil_append] at o9
  have hs7 := hd7.size
  refine appendZB_i o9 (by omega) (by omega) (by have := (Fr.size f9); have := e8.size; omega) fun v10 w10 f10 o10 hin10 => ?_
  have e10 : Ext w7 w10 := Ext.own e89 f10 fun i hi => by have := (o9.inB hi).1; omega
  refine more_i e10 ?_
  rw [Int.toNat_natCast] at o10
  have E10 := E7.trans e10
  refine make_s (ht.ext E10) (hy.salt.ext E10) o10.rd (by rw [List.length_append, List.length_replicate]; omega) (fun h => absurd p1 h) fun _ t2 r2 w11 e11 ot2 or2 => ?_
  have p2' : (shp9 y.alg y.blk (y.data.2 ++ List.replicate m 0)).tree (S.dg y.alg y.salt.2) (y.data.2 ++ List.replicate m 0) = (shp9 y.alg y.blk y.data.2).tree (S.dg y.alg y.salt.2) y.data.2 := p2
  have p3' : (shp9 y.alg y.blk (y.data.2 ++ List.replicate m 0)).root (S.dg y.alg y.salt.2) (y.data.2 ++ List.replicate m 0) = (shp9 y.alg y.blk y.data.2).root (S.dg y.alg y.salt.2) y.data.2 := p3
  rw [p2'] at ot2
  rw [p3'] at or2
  have e711 := e10.trans e11
  have ot11 := Own.ext ot e711
  have or11 := Own.ext or e711
  refine join_i (fun c w' => c = true ∧ w11 = w') ?_ fun J hJ => ?_
  rotate_left
  · refine cond_i (fun _ => ?_) (fun h => by simp at h)
    exact b2s_i ot11.rd (b2s_i ot2.rd (hJ _ _ ⟨beq_self_eq_true _, rfl⟩))
  rintro c w' ⟨rfl, rfl⟩
  refine join_i (fun c w' => c = true ∧ w11 = w') ?_ fun J hJ => ?_
  rotate_left
  · refine cond_i (fun _ => ?_) (fun h => by simp at h)
    exact b2s_i or11.rd (b2s_i or2.rd (hJ _ _ ⟨beq_self_eq_true _, rfl⟩))
  rintro c w' ⟨rfl, rfl⟩
  exact hK w11 (E7.trans e711)
end Go.Proofs.YtbmcbjmpogbmeaaDoor
