/- Layer 10 (drive): a step of a play that writes, arms, boots. -/
import Derived.Test.YtjphpadgbhegaaaPly10e
set_option linter.unusedSimpArgs false
set_option linter.unusedVariables false
namespace Go.Proofs.Ytjphpadgbhegaaa
open Go Go.Eng
section
variable {w w' : World} {B gd gt : Nat} {L : Lay} {T : TLay} {lf : Int} {ar : Bool} {ks : Sl} {D : S.Drv}
/-- Step 2: a write. -/
theorem stepWrite_s {o : DOp} {g1 : Nat} {K : Bool → World → Prop} (h : Both w B gd gt L T lf ar ks D) (ho : o.Ok w) (v : Var w g1 o.cells) (hg1 : ∀ k, (T.own D.as.length k ∨ k = gt ∨ L.inD gd k) → k ≠ g1) (hs : D.count + 1 ≤ 1000000000 ∧ D.bytes + 1048576 ≤ 1000000000000000)
    (hdl : o.dat.2.length ≤ 1000) (hsep : o.dat.2 ≠ [] → ∀ a, o.dat.1.a = some a → a.block < B) (hK : StepK B gd gt 0 T D w K) :
    callS Try.prog 32 #[.pointer (some (at_ gt 0)), .agg o.cells.toArray] [.one (.int .i64)] (fun r35 w =>
      semS Try.prog (Instr.loadAt 9 (.pointer (some (at_ g1 3)))) (.one .str) (fun x36 w =>
      semS Try.prog (Instr.loadAt 2 (.pointer (some (at_ g1 1)))) (.one (.int .i64)) (fun x37 w =>
      semS Try.prog (Instr.loadAt 22 (.pointer (some (at_ g1 4)))) (.one .slc) (fun x38 w =>
      callS Try.prog 10 #[(.pointer (some (at_ gd 0))), (.string x36), (.int .i64 x37), (.slice x38.a x38.len x38.cap)] [(.one (.int .i64))] (fun r39 w =>
      K (r39 == r35) w) w) w) w) w) w := by
  have wo : ∀ k, wrB T gt D.as.length k → T.own D.as.length k ∨ k = gt := fun k hk => by
    rcases hk with hk | ⟨i, hi, hk⟩
    · exact .inr hk
    · exact .inl (.inr (.inr (.inr (.inl ⟨i, hi, hk⟩))))
  refine twrite_s (o := o) h.t h.s ho h.le hdl hsep h.d.okL fun w1 lf1 f1 t1 => ?_
  have v1 := v.fr f1 fun hk => (wo _ hk).elim (fun q => hg1 _ (.inl q) rfl) fun q => hg1 _ (.inr (.inl q)) rfl
  refine ld1_i (l := .str) (o := 3) (str o.name) v1 rfl ?_
  refine ld1_i (l := .int .i64) (o := 1) o.off v1 rfl ?_
  refine ld1_i (l := .slc) (o := 4) o.dat.1 v1 rfl ?_
  have d1 : DriveAt w1 gd L D := h.d.fr f1 fun k hk hx => (wo _ hx).elim (h.dis k hk).2 (h.dis k hk).1
  have hdat : Bts w1 o.dat.1 o.dat.2 := rd_fr_ne ho.dat f1 fun hne a ha hx => by
    have := hsep (by simpa using hne) a ha
    have := (h.t.wr hx).1
    omega
  refine dWrite_s d1 ho.off hdat (by omega) (fun hne a ha hk => by have := hsep hne a ha; have := h.inD _ hk; omega) fun w2 f2 d2 => ?_
  rw [str_toList] at d2 ⊢
  have lk := S.like_write (D := D) (n := o.name) (off := o.off) (bs := o.dat.2)
  generalize D.write o.name o.off o.dat.2 = R at t1 d2 lk ⊢
  obtain ⟨re, D'⟩ := R
  simp only at t1 d2 lk ⊢
  rw [beq_self_eq_true]
  have t2 : TwinAt w2 B gt T lf1 ar ks D' := t1.frD h.inD (by rw [lk.n]; exact h.dis) f2
  refine hK w2 L lf1 ar ks D' ((f1.mono fun k _ hk => (h.t.wr hk).1).trans f2 fun k _ hk => h.inD k hk) (h.make (Nat.le_trans f1.size f2.size) d2 t2 h.inD h.dis lk hs) lk
/-- Step 6: booting. -/
theorem stepBoot_s {K : Bool → World → Prop} (h : Both w B gd gt L T lf ar ks D) (hs : D.count + 1 ≤ 1000000000 ∧ D.bytes + 1048576 ≤ 1000000000000000) (hK : StepK B gd gt 0 T D w K) :
    callS Try.prog 13 #[(.pointer (some (at_ gd 0)))] [] (fun w =>
              nilS (some (at_ gt 0)) fun a98 =>
              semU Try.prog (Instr.storeAt 4 (.pointer (some (a98.add 4))) (.bool false)) (fun w =>
              nilS (some (at_ gt 0)) fun a99 =>
              semU Try.prog (Instr.storeAt 4 (.pointer (some (a99.add 6))) (.bool false)) (fun w =>
              K true w) w) w) w := by
  have hdg := h.dis gd (.inl rfl)
  have hBg := h.inD gd (.inl rfl)
  refine dBoot_s h.d fun w1 f1 d1 => ?_
  have t1 := h.t.frGd hBg hdg f1
  refine nil_i rfl ?_
  refine st1_i (o := 4) t1.var (show 4 < 9 by decide) rfl fun w2 f2 v2 => ?_
  refine nil_i rfl ?_
  refine st1_i (o := 6) v2 (show 6 < 9 by decide) rfl fun w3 f3 v3 => ?_
  have f23 := f2.trans' f3
  have t3 : TwinAt w3 B gt T lf false ks D.boot := t1.upVar f23 v3 rfl (rd_fr_ne t1.keep f23 fun hne a ha e => by
    have e2 : a.block = gt := e; have := t1.kne (fun q => hne (by show D.keep.map Value.bool = []; rw [q]; rfl)) a ha; have := t1.ge.1; omega) ⟨rfl, fun h => (by cases h), t1.arm.2.2⟩ t1.kne
  have d3 : DriveAt w3 gd L D.boot := d1.fr f23 fun k hk e => (h.dis k hk).1 e
  have lk : S.Like D D.boot := S.Like.same rfl ⟨by show D.count ≤ D.count; omega, by show D.count ≤ D.count + 1; omega⟩ ⟨by show D.bytes ≤ D.bytes; omega, by show D.bytes ≤ D.bytes + 1048576; omega⟩
  refine hK w3 L lf false ks D.boot ((f1.mono fun k _ e => ?_).trans f23 fun k _ e => ?_) (h.make (Nat.le_trans f1.size f23.size) d3 t3 h.inD h.dis lk hs) lk
  · have e2 : k = gd := e; omega
  · have e2 : k = gt := e; have := h.t.ge.1; omega
/-- Step 5: arming. -/
theorem stepArm_s {o : DOp} {g1 : Nat} {K : Bool → World → Prop} (h : Both w B gd gt L T lf ar ks D) (ho : o.Ok w) (v : Var w g1 o.cells) (hg1 : ∀ k, (T.own D.as.length k ∨ k = gt ∨ L.inD gd k) → k ≠ g1) (hs : D.count + 1 ≤ 1000000000 ∧ D.bytes + 1048576 ≤ 1000000000000000)
    (hkl : o.keep.2.length ≤ 1000) (hsep : o.keep.2 ≠ [] → ∀ a, o.keep.1.a = some a → a.block < B) (hK : StepK B gd gt 0 T D w K) :
    semS Try.prog (Instr.buildSlice 23 0 #[]) (.one .slc) (fun x83 w =>
            semS Try.prog (Instr.loadAt 23 (.pointer (some (at_ g1 6)))) (.one .slc) (fun x84 w =>
            semS Try.prog (Builtin.append_ #[23, 23] 23 #[(.slice x83.a x83.len x83.cap), (.slice x84.a x84.len x84.cap)]) (.one .slc) (fun r85 w =>
            semS Try.prog (Instr.loadAt 2 (.pointer (some (at_ g1 2)))) (.one (.int .i64)) (fun x86 w =>
            callS Try.prog 12 #[(.pointer (some (at_ gd 0))), (.int .i64 x86), (.slice r85.a r85.len r85.cap)] [] (fun w =>
            loopS (σ := Int) (fun x87 w again88 =>
              cond (decide (x87 < (r85.len : Int)))
                (semS Try.prog (Instr.indexAt 23 (.slice r85.a r85.len r85.cap) (.int .i64 x87)) (.one .adr) (fun x89 w =>
                semS Try.prog (Instr.loadAt 4 (.pointer (some x89))) (.one .bool) (fun x90 w =>
                semS Try.prog (Instr.indexAt 23 (.slice r85.a r85.len r85.cap) (.int .i64 x87)) (.one .adr) (fun x91 w =>
                semU Try.prog (Instr.storeAt 4 (.pointer (some x91)) (.bool (!x90))) (fun w =>
                again88 (IntKind.wrap .i64 (x87 + 1)) w) w) w) w) w)
                (drawS w fun C w =>
                semQ Try.prog C (Instr.loadAt 2 (.pointer (some (at_ g1 2)))) (.one (.int .i64)) (fun x92 =>
                semQ Try.prog C (Instr.loadAt 2 (.pointer (some (at_ g1 2)))) (.one (.int .i64)) (fun x93 =>
                semQ Try.prog C (Instr.loadAt 23 (.pointer (some (at_ g1 6)))) (.one .slc) (fun x94 =>
                nilS (some (at_ gt 0)) fun a95 =>
                semU Try.prog (Instr.storeAt 4 (.pointer (some (a95.add 4))) (.bool (decide (x92 ≥ 0)))) (fun w =>
                moreS C w (fun C =>
                nilS (some (at_ gt 0)) fun a96 =>
                semU Try.prog (Instr.storeAt 2 (.pointer (some (a96.add 3))) (.int .i64 x93)) (fun w =>
                moreS C w (fun C =>
                nilS (some (at_ gt 0)) fun a97 =>
                semU Try.prog (Instr.storeAt 23 (.pointer (some (a97.add 5))) (.slice x94.a x94.len x94.cap)) (fun w =>
                K true w) w)) w)) w))))) 0 w) w) w) w) w) w := by
  have hdg := h.dis gd (.inl rfl)
  have hBg := h.inD gd (.inl rfl)
  have hksl : o.keep.1.len = o.keep.2.length := by have := ho.keep.len; simp at this; omega
  have hb1 : ∀ (l : List Bool), ∀ v ∈ l.map Value.bool, v.oneCell' = true := fun l v hv => by obtain ⟨b, _, rfl⟩ := List.mem_map.1 hv; rfl
  refine buildSlice_i #[] (by simp [Instr.fill]) (by simp) (by omega) fun x w1 e1 o1 hl1 => ?_
  have v1 := v.ext e1
  refine ld1_i (l := .slc) (o := 6) o.keep.1 v1 rfl ?_
  refine append_i o1 (ho.keep.ext e1) (hb1 _) (by omega) e1.size fun r w2 f2 o2 hl2 hin => ?_
  have e2 : Ext w w2 := Ext.own e1 f2 fun i hi => (o1.inB hi).1
  have o2 : Own w2 w.heap.size r 1 (o.keep.2.map Value.bool) := by simpa using o2
  have v2 := v.ext e2
  refine ld1_i (l := .int .i64) (o := 2) o.n v2 rfl ?_
  refine dArm_s (ks := o.keep.2) (h.d.ext e2) ho.n o2.rd (by omega) fun w3 L3 f3 d3 hin3 _ => ?_
  have t3 := (h.t.ext e2).frGd hBg hdg f3
  have v3 := v2.fr f3 fun e => hg1 _ (.inr (.inr (.inl rfl))) (show gd = g1 from e.symm)
  have hrB : ∀ k, r.inB k → w.heap.size ≤ k ∧ k < w2.heap.size := fun k hk => o2.inB hk
  have hgdr : ∀ a, r.a = some a → ¬ a.block = gd := fun a ha e => by have := (hrB _ ⟨a, ha, rfl⟩).1; have := h.d.lt (.inl rfl : L.inD gd gd); omega
  have o3 := o2.fr f3 hgdr
  have hrl : r.len = o.keep.2.length := by have := o2.len; simp at this; omega
  have s2 := e2.size
  have s3 := f3.size
  have hinB3 : ∀ k, L3.inD gd k → B ≤ k := fun k hk => by
    rcases hin3 k hk with q | q
    · exact h.inD k q
    · have := h.le; omega
  have hdis3 : ∀ k, L3.inD gd k → k ≠ gt ∧ ¬ T.own D.as.length k := fun k hk => by
    rcases hin3 k hk with q | q
    · exact h.dis k q
    · exact ⟨fun e => by have := h.t.var.lt; omega, fun q2 => by have := h.t.lt k q2; omega⟩
  have hr3 : ∀ k, r.inB k → ¬ L3.inD gd k := fun k hk q => by
    have := hrB k hk
    rcases hin3 k q with q | q
    · have := h.d.lt q; omega
    · omega
  refine loop_i (fun (y : Int) w' => ∃ (k : Nat) (cs : List Bool), k ≤ r.len ∧ y = k ∧ Fr r.inB w3 w' ∧ Own w' w.heap.size r 1 (cs.map Value.bool)) (fun y _ => r.len - y.toNat) ⟨0, o.keep.2, by omega, rfl, Fr.refl _ _, o3⟩ ?_
  rintro y w4 again ⟨k, cs, hk, rfl, f4, o4⟩ hag
  have hl4 : r.len = cs.length := by have := o4.len; simp at this; omega
  refine cond_i (fun hlt => ?_) (fun hge => ?_)
  · have hk' : k < cs.length := by have := of_decide_eq_true hlt; omega
    refine elem_i (l := .bool) (x := cs[k]'hk') o4.rd (by omega) (by omega) (by rw [Int.toNat_natCast, List.getElem?_map, List.getElem?_eq_getElem hk']; rfl) ?_
    refine set_i (u := .bool (!cs[k]'hk')) o4 (by omega) (by omega) rfl fun w5 f5 o5 => ?_
    rw [Int.toNat_natCast, show (cs.map Value.bool).set k (Value.bool (!cs[k]'hk')) = (cs.set k (!cs[k]'hk')).map Value.bool by rw [List.map_set]] at o5
    refine hag _ w5 ⟨k + 1, _, by omega, ?_, f4.trans' f5, o5⟩ ?_
    · simp only [wrap_i64 (x := (k : Int) + 1) (by omega) (by omega)]; omega
    · simp only [wrap_i64 (x := (k : Int) + 1) (by omega) (by omega)]; omega
  · have t4 : TwinAt w4 B gt T lf ar ks D := t3.fr f4 (fun k _ hk => ⟨fun e => by have := hrB k hk; have := h.t.var.lt; omega, fun q => by have := hrB k hk; have := h.t.lt k q; omega⟩) fun k hk => by have := hrB k hk; have := h.le; omega
    have d4 := d3.fr f4 fun k hk hx => hr3 k hx hk
    have v4 := v3.fr f4 fun hk => by have := (hrB _ hk).1; have := v.lt; omega
    have hgt1 : gt ≠ g1 := hg1 gt (.inr (.inl rfl))
    have C0 : ∀ {x}, Fr (fun k => k = gt) w4 x → Var x g1 o.cells := fun hx => v4.fr hx fun e => hgt1 (show gt = g1 from e.symm)
    refine ⟨fun x => Fr (fun k => k = gt) w4 x, (Ext.drew _).fr, ?_⟩
    refine ld1Q_i (l := .int .i64) (o := 2) o.n (fun x hx => C0 hx) rfl ?_
    refine ld1Q_i (l := .int .i64) (o := 2) o.n (fun x hx => C0 hx) rfl ?_
    refine ld1Q_i (l := .slc) (o := 6) o.keep.1 (fun x hx => C0 hx) rfl ?_
    refine nil_i rfl ?_
    have hd4 := Ext.drew w4
    refine st1_i (o := 4) (t4.ext hd4).var (show 4 < 9 by decide) rfl fun w5 f5 v5 => ?_
    have F5 : Fr (fun k => k = gt) w4 w5 := hd4.fr.trans' f5
    refine more2_i (fun x => Fr (fun k => k = gt) w4 x) F5 (fun x hx => hx) ?_
    refine nil_i rfl ?_
    refine st1_i (o := 3) v5 (show 3 < 9 by decide) rfl fun w6 f6 v6 => ?_
    have F6 := F5.trans' f6
    refine more2_i (fun x => Fr (fun k => k = gt) w4 x) F6 (fun x hx => hx) ?_
    refine nil_i rfl ?_
    refine st1_i (o := 5) v6 (show 5 < 9 by decide) rfl fun w7 f7 v7 => ?_
    have F7 := F6.trans' f7
    have hkeep4 : Rd w7 o.keep.1 1 (o.keep.2.map Value.bool) := by
      have k3 := rd_fr_ne (ho.keep.ext e2) f3 fun hne a ha e => by have e2 : a.block = gd := e; have := hsep (by simpa using hne) a ha; omega
      have k4 := rd_fr_ne k3 f4 fun hne a ha e => by have := hsep (by simpa using hne) a ha; have := hrB _ e; have := h.le; omega
      exact rd_fr_ne k4 F7 fun hne a ha e => by have e2 : a.block = gt := e; have := hsep (by simpa using hne) a ha; have := h.t.ge.1; omega
    have t7 : TwinAt w7 B gt T o.n (decide (o.n ≥ 0)) o.keep.1 (D.arm o.n o.keep.2) := t4.upVar F7 v7 rfl hkeep4 ⟨by rw [decide_eq_decide]; show o.n ≥ 0 ↔ 0 ≤ max o.n (-1); omega, fun q => by have := of_decide_eq_true q; show o.n = max o.n (-1); omega, ho.n⟩ (fun hne => hsep hne)
    have d7 := d4.fr F7 fun k hk e => (hdis3 k hk).1 e
    have lk : S.Like D (D.arm o.n o.keep.2) := S.Like.same rfl ⟨by show D.count ≤ D.count; omega, by show D.count ≤ D.count + 1; omega⟩ ⟨by show D.bytes ≤ D.bytes; omega, by show D.bytes ≤ D.bytes + 1048576; omega⟩
    have s4 := f4.size
    have s7 := F7.size
    refine hK w7 L3 o.n _ o.keep.1 _ ((((e2.fr.trans f3 fun k _ e => ?_).trans f4 fun k _ hk => ?_)).trans F7 fun k _ e => ?_) (h.make (by omega) d7 t7 hinB3 hdis3 lk hs) lk
    · have e2 : k = gd := e; omega
    · have := (hrB k hk).1; have := h.le; omega
    · have e2 : k = gt := e; have := h.t.ge.1; omega
end
end Go.Proofs.Ytjphpadgbhegaaa
