/- Layer 10 (drive): the loop over a play's steps. -/
import Derived.Test.YtjphpadgbhegaaaPly10m
set_option linter.unusedSimpArgs false
set_option linter.unusedVariables false
namespace Go.Proofs.Ytjphpadgbhegaaa
open Go Go.Eng
/-- The same partitions, by name and size. -/
structure SameAs (D D' : S.Drv) : Prop where
  n : D'.as.length = D.as.length
  l : ∀ i, (D'.ar i).b.length = (D.ar i).b.length
  m : ∀ i, (D'.ar i).name = (D.ar i).name
  a : ∀ n, D'.at? n = D.at? n
theorem ops_s {wB w : World} {gd gt : Nat} {L : Lay} {T : TLay} {lf : Int} {ar : Bool} {ks : Sl} {D : S.Drv} {p1 : Sl} {os : List DOp} {K : Bool → World → Prop} {R : World → Prop} (e0 : Ext wB w) (h : Both w wB.heap.size gd gt L T lf ar ks D) (h0 : D.count = 0 ∧ D.bytes = 0) (hos : OpsIn wB p1 os) (hn : os.length ≤ 80)
    (hT : ∀ w', Ext wB w' → K true w') (hR : ∀ w' L' lf' ar' ks' D', Ext wB w' → Both w' wB.heap.size gd gt L' T lf' ar' ks' D' → SameAs D D' → D'.count ≤ 80 ∧ D'.bytes ≤ 80 * 1048576 → R w') :
    loopS (σ := Int) (fun x26 w again27 =>
                    cond (decide (x26 < (p1.len : Int)))
                      (semS Try.prog (Instr.indexAt 45 (.slice p1.a p1.len p1.cap) (.int .i64 x26)) (.one .adr) (fun x28 w =>
                      semS Try.prog (Instr.loadAt 47 (.pointer (some x28))) (.agg [(.int .i64), (.int .i64), (.int .i64), .str, .slc, .bool, .slc]) (fun x29 x30 x31 x32 x33 x34 x35 w =>
                      semS Try.prog (Instr.alloc 47 true (.tuple #[])) (.one .adr) (fun x36 w =>
                      semU Try.prog (Instr.storeAt 47 (.pointer (some x36)) (.agg #[(.int .i64 x29), (.int .i64 x30), (.int .i64 x31), (.string x32), (.slice x33.a x33.len x33.cap), (.bool x34), (.slice x35.a x35.len x35.cap)])) (fun w =>
                      semS Try.prog (Instr.loadAt 22 (.pointer (some (x36.add 4)))) (.one .slc) (fun x37 w =>
                      joinS (σ := Bool) (fun b38 w =>
                        joinS (σ := Bool) (fun b40 w =>
                          cond b40
                            (K true w)
                            (semS Try.prog (Instr.loadAt 47 (.pointer (some x36))) (.agg [(.int .i64), (.int .i64), (.int .i64), .str, .slc, .bool, .slc]) (fun x42 x43 x44 x45 x46 x47 x48 w =>
                            callS Try.prog 20 #[(.pointer (some (at_ gd 0))), (.pointer (some (at_ gt 0))), (.agg #[(.int .i64 x42), (.int .i64 x43), (.int .i64 x44), (.string x45), (.slice x46.a x46.len x46.cap), (.bool x47), (.slice x48.a x48.len x48.cap)])] [(.one .bool)] (fun r49 w =>
                            cond (!r49)
                              (K false w)
                              (callS Try.prog 15 #[(.pointer (some (at_ gd 0)))] [(.one (.int .i64)), (.one (.int .i64))] (fun r50 r51 w =>
                              drawS w fun C w =>
                              semQ Try.prog C (Instr.loadAt 2 (.pointer (some (at_ gt 7)))) (.one (.int .i64)) (fun x52 =>
                              cond (r50 != x52)
                                (K false w)
                                (semQ Try.prog C (Instr.loadAt 2 (.pointer (some (at_ gt 8)))) (.one (.int .i64)) (fun x53 =>
                                cond (r51 != x53)
                                  (K false w)
                                  (semQ Try.prog C (Instr.loadAt 4 (.pointer (some (at_ gt 6)))) (.one .bool) (fun x54 =>
                                  callS Try.prog 17 #[(.pointer (some (at_ gd 0)))] [(.one .bool)] (fun r55 w =>
                                  moreS C w (fun C =>
                                  cond (!(r55 == x54))
                                    (K false w)
                                    (again27 (IntKind.wrap .i64 (x26 + 1)) w))) w)))))) w)) w) w)) fun J41 =>
                        cond b38
                          (J41 true w)
                          (semS Try.prog (Instr.loadAt 9 (.pointer (some (x36.add 3)))) (.one .str) (fun x57 w =>
                            J41 (decide ((x57.size : Int) > 100)) w) w)) fun J39 =>
                      cond (decide ((x37.len : Int) > 500))
                        (J39 true w)
                        (semS Try.prog (Instr.loadAt 23 (.pointer (some (x36.add 6)))) (.one .slc) (fun x58 w =>
                          J39 (decide ((x58.len : Int) > 30)) w) w)) w) w) w) w) w)
                      (R w)) 0 w := by
  have hpl : p1.len = os.length := by have := hos.rds.len; simp at this; omega
  refine loop_i (fun (x : Int) w' => Ext wB w' ∧ ∃ (i : Nat) (L : Lay) (lf : Int) (ar : Bool) (ks : Sl) (D' : S.Drv), i ≤ os.length ∧ x = i ∧ Both w' wB.heap.size gd gt L T lf ar ks D' ∧ SameAs D D' ∧ D'.count ≤ i ∧ D'.bytes ≤ i * 1048576) (fun x _ => os.length - x.toNat)
    ⟨e0, 0, L, lf, ar, ks, D, by omega, rfl, h, ⟨rfl, fun _ => rfl, fun _ => rfl, fun _ => rfl⟩, by omega, by omega⟩ ?_
  rintro x w1 again ⟨e1, i, L1, lf1, ar1, ks1, D1, hi, rfl, b1, sm, hc, hy⟩ hag
  refine cond_i (fun hlt => ?_) (fun _ => hR w1 L1 lf1 ar1 ks1 D1 e1 b1 sm ⟨by omega, by omega⟩)
  have hilt : i < os.length := by have := of_decide_eq_true hlt; omega
  refine op_at ⟨hos.rds.ext e1, fun o ho => (hos.ok o ho).ext e1⟩ hilt fun g2 w2 e2 hg2 v2 => ?_
  have hok := hos.ok _ (List.getElem_mem hilt)
  generalize os[i] = o at v2 hok
  have e12 := e1.trans e2
  have hdl := Bts.len hok.dat
  have hkl : o.keep.1.len = o.keep.2.length := by have := hok.keep.len; simp at this; omega
  refine ld1_i (l := .slc) (o := 4) o.dat.1 v2 rfl ?_
  refine join_i (fun c w' => (c = false → o.dat.2.length ≤ 500 ∧ o.keep.2.length ≤ 30) ∧ w2 = w') ?_ fun J hJ => ?_
  rotate_left
  · refine cond_i (fun _ => hJ _ _ ⟨fun h => (by cases h), rfl⟩) (fun hq => ?_)
    have hq' := of_decide_eq_false hq
    refine ld1_i (l := .slc) (o := 6) o.keep.1 v2 rfl (hJ _ _ ⟨fun h => ?_, rfl⟩)
    have := of_decide_eq_false h
    omega
  rintro c w' ⟨hcc, rfl⟩
  refine join_i (fun c' w' => (c' = false → c = false) ∧ w2 = w') ?_ fun J hJ => ?_
  rotate_left
  · refine cond_i (fun _ => hJ _ _ ⟨fun h => (by cases h), rfl⟩) (fun hq => ?_)
    exact ld1_i (l := .str) (o := 3) (str o.name) v2 rfl (hJ _ _ ⟨fun _ => hq, rfl⟩)
  rintro c' w' ⟨hc', rfl⟩
  refine cond_i (fun _ => hT w2 e12) (fun hf => ?_)
  have hlim := hcc (hc' hf)
  refine ldOp_i v2 ?_
  have b2 := b1.ext e2
  refine step_s (o := o) b2 (hok.ext e12) (by omega) (by omega) (fun hne a ha => rd_lt hok.dat (by simpa using hne) ha) (by omega) (fun hne a ha => rd_lt hok.keep (by simpa using hne) ha) fun w3 L3 lf3 ar3 ks3 D3 f3 b3 lk => ?_
  have e3 : Ext wB w3 := Ext.own e12 f3 fun k hk => hk
  refine cond_i (fun h => by cases h) (fun _ => ?_)
  refine dReads_s b3.d ?_
  have hd1 := Ext.drew w3
  have b4 := b3.ext hd1
  have hd2 := Ext.drew w3.drew
  refine ⟨fun x => Ext w3.drew x, hd2, ?_⟩
  refine ld1Q_i (l := .int .i64) (o := 7) D3.count (fun x hx => (b4.ext hx).t.var) rfl ?_
  refine cond_i (fun h => by simp at h) (fun _ => ?_)
  refine ld1Q_i (l := .int .i64) (o := 8) D3.bytes (fun x hx => (b4.ext hx).t.var) rfl ?_
  refine cond_i (fun h => by simp at h) (fun _ => ?_)
  refine ld1Q_i (l := .bool) (o := 6) D3.down (fun x hx => (b4.ext hx).t.var) rfl ?_
  have b5 := b4.ext hd2
  refine dDown_s b5.d ?_
  refine more_i hd2 ?_
  refine cond_i (fun h => by simp at h) (fun _ => ?_)
  refine hag _ _ ⟨(e3.trans hd1).trans hd2, i + 1, L3, lf3, ar3, ks3, D3, by omega, ?_, b5, ⟨by rw [lk.n, sm.n], fun j => by rw [lk.l, sm.l], fun j => by rw [lk.m, sm.m], fun n => by rw [lk.a, sm.a]⟩, ?_, ?_⟩ ?_
  · simp only [wrap_i64 (x := (i : Int) + 1) (by omega) (by omega)]; omega
  · have := lk.c; omega
  · have := lk.y; omega
  · simp only [wrap_i64 (x := (i : Int) + 1) (by omega) (by omega)]; omega
end Go.Proofs.Ytjphpadgbhegaaa
