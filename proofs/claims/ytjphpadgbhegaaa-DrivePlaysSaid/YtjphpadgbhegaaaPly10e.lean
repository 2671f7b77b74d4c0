/- Layer 10 (drive): a step of a play, for reads, writes, arming and booting. -/
import Derived.Test.YtjphpadgbhegaaaPly10d
set_option linter.unusedSimpArgs false
set_option linter.unusedVariables false
namespace Go.S
open Go Go.Eng
/-- The same partitions, of the same sizes. -/
structure Like (D D' : Drv) : Prop where
  n : D'.as.length = D.as.length
  l : ∀ i, (D'.ar i).b.length = (D.ar i).b.length
  m : ∀ i, (D'.ar i).name = (D.ar i).name
  a : ∀ n, D'.at? n = D.at? n
  c : D.count ≤ D'.count ∧ D'.count ≤ D.count + 1
  y : D.bytes ≤ D'.bytes ∧ D'.bytes ≤ D.bytes + 1048576
theorem Like.same {D D' : Drv} (h : D'.as = D.as) (hc : D.count ≤ D'.count ∧ D'.count ≤ D.count + 1) (hy : D.bytes ≤ D'.bytes ∧ D'.bytes ≤ D.bytes + 1048576) : Like D D' :=
  ⟨by rw [h], fun i => by unfold Drv.ar; rw [h], fun i => by unfold Drv.ar; rw [h], fun n => Drv.at?_congr h n, hc, hy⟩
theorem Like.refl (D : Drv) : Like D D := Like.same rfl ⟨by omega, by omega⟩ ⟨by omega, by omega⟩
theorem Like.set {D D' : Drv} {i : Nat} {A : Area} (hi : i < D.as.length) (hn : A.name = (D.ar i).name) (hl : A.b.length = (D.ar i).b.length) (h : D'.as = (D.set i A).as) (hc : D'.count = D.count) (hy : D'.bytes = D.bytes) : Like D D' := by
  have har : ∀ j, D'.ar j = (D.set i A).ar j := fun j => by unfold Drv.ar; rw [h]
  refine ⟨by rw [h]; simp [Drv.set], fun j => ?_, fun j => ?_, fun n => ?_, by omega, by omega⟩
  · rw [har]
    by_cases hij : i = j
    · subst hij; rw [Drv.ar_set hi, hl]
    · rw [Drv.ar_set_ne hij]
  · rw [har]
    by_cases hij : i = j
    · subst hij; rw [Drv.ar_set hi, hn]
    · rw [Drv.ar_set_ne hij]
  · rw [Drv.at?_congr h]; exact Drv.at?_set hn n
theorem cap60_le {x : Int} (h : x ≤ 1152921504606846976) : cap60 x = x := by unfold cap60; rw [if_neg (by omega)]
theorem like_read {D : Drv} {n : List UInt8} {off len : Int} (hb : ∀ i, i < D.as.length → (D.ar i).b.length ≤ 1048576) (hc : D.count ≤ 1000000000) (hy : D.bytes ≤ 1000000000000000) : Like D (D.read n off len).2.2 := by
  cases hd : D.down with
  | true => rw [Keeps.readD hd]; exact Like.refl D
  | false =>
    cases hat : D.at? n with
    | none => rw [read_no hd hat]; exact Like.refl D
    | some i =>
      rw [read_at hd hat]
      cases hw : within off len (D.ar i).b.length with
      | false => rw [if_pos rfl]; exact Like.refl D
      | true =>
        rw [if_neg (by simp)]
        have hwi := within_iff.1 hw
        have := hb i (Drv.at?_lt hat)
        split
        · exact Like.refl D
        · refine Like.same rfl ?_ ?_
          · show D.count ≤ cap60 (D.count + 1) ∧ cap60 (D.count + 1) ≤ D.count + 1; rw [cap60_le (by omega)]; omega
          · show D.bytes ≤ cap60 (D.bytes + len) ∧ cap60 (D.bytes + len) ≤ D.bytes + 1048576; rw [cap60_le (by omega)]; omega
theorem read_le10 (D : Drv) (n : List UInt8) (off len : Int) : (D.read n off len).1.length ≤ len.toNat := by
  unfold Drv.read
  split
  · simp
  · dsimp only
    split
    · simp
    · simp; omega
theorem like_write {D : Drv} {n : List UInt8} {off : Int} {bs : List UInt8} : Like D (D.write n off bs).2 := by
  cases hd : D.down with
  | true => rw [write_dn hd]; exact Like.refl D
  | false =>
    cases hat : D.at? n with
    | none => rw [write_no hd hat]; exact Like.refl D
    | some i =>
      rw [write_at hd hat]
      split
      · exact Like.refl D
      · split
        · exact Like.set (A := (D.ar i).setB (over (D.ar i).b bs off.toNat fun _ => true)) (Drv.at?_lt hat) rfl (by rw [Area.setB_b, over_length]) rfl rfl rfl
        · exact Like.set (A := (D.ar i).setB (over (D.ar i).b bs off.toNat fun k => D.keep.getD k false)) (Drv.at?_lt hat) rfl (by rw [Area.setB_b, over_length]) rfl rfl rfl
end Go.S
namespace Go.Proofs.Ytjphpadgbhegaaa
open Go Go.Eng
/-- The drive and the twin, side by side. -/
structure Both (w : World) (B gd gt : Nat) (L : Lay) (T : TLay) (lf : Int) (ar : Bool) (ks : Sl) (D : S.Drv) : Prop where
  d : DriveAt w gd L D
  t : TwinAt w B gt T lf ar ks D
  inD : ∀ k, L.inD gd k → B ≤ k
  dis : ∀ k, L.inD gd k → k ≠ gt ∧ ¬ T.own D.as.length k
  s : Small D
  b64 : ∀ i, i < D.as.length → (D.ar i).b.length % 64 = 0
  le : B ≤ w.heap.size
section
variable {w w' : World} {B gd gt : Nat} {L : Lay} {T : TLay} {lf : Int} {ar : Bool} {ks : Sl} {D : S.Drv}
theorem Both.ext (h : Both w B gd gt L T lf ar ks D) (e : Ext w w') : Both w' B gd gt L T lf ar ks D := ⟨h.d.ext e, h.t.ext e, h.inD, h.dis, h.s, h.b64, Nat.le_trans h.le e.size⟩
/-- Only the drive's blocks were turned: the twin stays. -/
theorem TwinAt.frD {L' : Lay} (t : TwinAt w B gt T lf ar ks D) (hin : ∀ k, L'.inD gd k → B ≤ k) (hdis : ∀ k, L'.inD gd k → k ≠ gt ∧ ¬ T.own D.as.length k) (f : Fr (L'.inD gd) w w') : TwinAt w' B gt T lf ar ks D := t.fr f (fun k _ hk => hdis k hk) hin
theorem TwinAt.frGd (t : TwinAt w B gt T lf ar ks D) (hB : B ≤ gd) (hdis : gd ≠ gt ∧ ¬ T.own D.as.length gd) (f : Fr (fun k => k = gd) w w') : TwinAt w' B gt T lf ar ks D := t.fr f (fun k _ hk => by rw [hk]; exact hdis) fun k hk => by rw [hk]; exact hB
/-- The twin's blocks. -/
theorem TwinAt.wr (t : TwinAt w B gt T lf ar ks D) {k : Nat} (hk : wrB T gt D.as.length k) : B ≤ k ∧ k < w.heap.size := by
  rcases hk with rfl | ⟨i, hi, hk⟩
  · exact ⟨t.ge.1, t.var.lt⟩
  · exact Own.inB (t.rB i hi) hk
theorem ldOp_i {P : Program} {w : World} {t g : Nat} [AggTy P t 7] {o : DOp} {K : Int → Int → Int → ByteArray → Sl → Bool → Sl → World → Prop} (hv : Var w g o.cells) (hK : K o.kind o.off o.n (str o.name) o.dat.1 o.on o.keep.1 w) :
    semS P (Instr.loadAt t (.pointer (some (at_ g 0)))) (.agg [(.int .i64), (.int .i64), (.int .i64), .str, .slc, .bool, .slc]) K w :=
  ldV_i (n := 7) (ls := [(.int .i64), (.int .i64), (.int .i64), .str, .slc, .bool, .slc]) 0 hv (Nat.le_refl 7) hK
/-- What a step promises. -/
def StepK (B gd gt n0 : Nat) (T : TLay) (D : S.Drv) (w : World) (K : Bool → World → Prop) : Prop := ∀ w' L' lf' ar' ks' D', Fr (fun k => B ≤ k) w w' → Both w' B gd gt L' T lf' ar' ks' D' → S.Like D D' → K true w'
theorem Both.make {L' : Lay} {lf' : Int} {ar' : Bool} {ks' : Sl} {D' : S.Drv} (h : Both w B gd gt L T lf ar ks D) (hf : w.heap.size ≤ w'.heap.size) (d : DriveAt w' gd L' D') (t : TwinAt w' B gt T lf' ar' ks' D') (hin : ∀ k, L'.inD gd k → B ≤ k) (hdis : ∀ k, L'.inD gd k → k ≠ gt ∧ ¬ T.own D.as.length k) (lk : S.Like D D') (hs : D.count + 1 ≤ 1000000000 ∧ D.bytes + 1048576 ≤ 1000000000000000) : Both w' B gd gt L' T lf' ar' ks' D' := by
  refine ⟨d, t, hin, by rw [lk.n]; exact hdis, ⟨by rw [lk.n]; exact h.s.n, fun i hi => by rw [lk.n] at hi; rw [lk.l]; exact h.s.b i hi, ?_, ?_⟩, fun i hi => by rw [lk.n] at hi; rw [lk.l]; exact h.b64 i hi, Nat.le_trans h.le hf⟩
  · have := h.s.c; have := lk.c; omega
  · have := h.s.y; have := lk.y; omega
/-- Step 1: a read. -/
theorem stepRead_s {o : DOp} {g1 : Nat} {K : Bool → World → Prop} (h : Both w B gd gt L T lf ar ks D) (ho : o.Ok w) (v : Var w g1 o.cells) (hg1 : ∀ k, (k = gd ∨ k = gt) → k ≠ g1) (hs : D.count + 1 ≤ 1000000000 ∧ D.bytes + 1048576 ≤ 1000000000000000) (hK : StepK B gd gt 0 T D w K) :
    callS Try.prog 31 #[.pointer (some (at_ gt 0)), .agg o.cells.toArray] [.one .slc, .one (.int .i64)] (fun r12 r13 w =>
    semS Try.prog (Instr.loadAt 9 (.pointer (some (at_ g1 3)))) (.one .str) (fun x14 w =>
    semS Try.prog (Instr.loadAt 2 (.pointer (some (at_ g1 1)))) (.one (.int .i64)) (fun x15 w =>
    semS Try.prog (Instr.loadAt 2 (.pointer (some (at_ g1 2)))) (.one (.int .i64)) (fun x16 w =>
    callS Try.prog 11 #[(.pointer (some (at_ gd 0))), (.string x14), (.int .i64 x15), (.int .i64 x16)] [(.one .slc), (.one (.int .i64))] (fun r17 r18 w =>
    joinS (σ := Bool) (fun b19 w =>
      loopS (σ := Int) (fun x21 w again22 =>
        cond (decide (x21 < (r17.len : Int)))
          (semS Try.prog (Instr.indexAt 22 (.slice r17.a r17.len r17.cap) (.int .i64 x21)) (.one .adr) (fun x23 w =>
          semS Try.prog (Instr.loadAt 5 (.pointer (some x23))) (.one (.int .u8)) (fun x24 w =>
          semS Try.prog (Instr.indexAt 22 (.slice r17.a r17.len r17.cap) (.int .i64 x21)) (.one .adr) (fun x25 w =>
          semU Try.prog (Instr.storeAt 5 (.pointer (some x25)) (.int .u8 (xorI .u8 x24 255))) (fun w =>
          again22 (IntKind.wrap .i64 (x21 + 1)) w) w) w) w) w)
          (K b19 w)) 0 w) fun J20 =>
    cond (r18 == r13)
      (semS Try.prog (convert 22 9 (.slice r17.a r17.len r17.cap)) (.one .str) (fun x26 w =>
        semS Try.prog (convert 22 9 (.slice r12.a r12.len r12.cap)) (.one .str) (fun x27 w =>
        J20 (x26.toList == x27.toList) w) w) w)
      (J20 false w)) w) w) w) w) w := by
  have hgd := h.d.lt (.inl rfl : L.inD gd gd)
  have hdg := h.dis gd (.inl rfl)
  have hBg := h.inD gd (.inl rfl)
  refine tread_s (o := o) h.t h.s ho h.b64 fun u w1 f1 t1 hu huin => ?_
  have v1 := v.fr f1 (fun e => hg1 g1 (.inr e) rfl)
  refine ld1_i (l := .str) (o := 3) (str o.name) v1 rfl ?_
  refine ld1_i (l := .int .i64) (o := 1) o.off v1 rfl ?_
  refine ld1_i (l := .int .i64) (o := 2) o.n v1 rfl ?_
  have d1 : DriveAt w1 gd L D := h.d.fr f1 fun k hk e => (h.dis k hk).1 e
  refine dRead_s d1 ho.off ho.n fun x w2 f2 d2 o2 => ?_
  rw [str_toList] at d2 o2 ⊢
  have lk := S.like_read (D := D) (n := o.name) (off := o.off) (len := o.n) h.s.b (by omega) (by omega)
  have hle := S.read_le10 D o.name o.off o.n
  have hon := ho.n.2
  generalize D.read o.name o.off o.n = R at t1 hu d2 o2 lk hle ⊢
  obtain ⟨rb, re, D'⟩ := R
  simp only at t1 hu d2 o2 lk hle ⊢
  have hxl := OwnB.len o2
  have hown : ∀ k, T.own D'.as.length k ↔ T.own D.as.length k := fun k => by rw [lk.n]
  have t2 : TwinAt w2 B gt T lf ar ks D' := t1.frGd hBg ⟨hdg.1, fun h => hdg.2 ((hown _).1 h)⟩ f2
  have hu2 : Bts w2 u rb := hu.fr f2 fun a ha e => by
    have e2 : a.block = gd := e
    have := huin _ ⟨a, ha, rfl⟩
    rw [e2] at this; exact hdg.2 this
  have s1 := f1.size
  have s2 := f2.size
  refine join_i (fun b w' => b = true ∧ w2 = w') ?_ fun J hJ => ?_
  · rintro b w' ⟨rfl, rfl⟩
    refine loop_i (fun (y : Int) w' => ∃ (k : Nat) (cs : List UInt8), k ≤ x.len ∧ y = k ∧ Fr x.inB w2 w' ∧ OwnB w' w1.heap.size x cs) (fun y _ => x.len - y.toNat) ⟨0, rb, by omega, rfl, Fr.refl _ _, o2⟩ ?_
    rintro y w3 again ⟨k, cs, hk, rfl, f3, o3⟩ hag
    have hl3 := OwnB.len o3
    refine cond_i (fun hlt => ?_) (fun hge => ?_)
    · have hk' : k < cs.length := by have := of_decide_eq_true hlt; omega
      have hbv := (cs[k]'hk').toNat_lt
      refine elem_i (l := .int .u8) (x := ((cs[k]'hk').toNat : Int)) o3.rd (by omega) (by omega) (by simpa using bytes_get hk') ?_
      refine put1_i (b := cs[k]'hk' ^^^ 255) o3 (by omega) (by omega) ?_ fun w4 f4 o4 => ?_
      · rw [show (255 : Int) = ((255 : Nat) : Int) by rfl, xor_u8 hbv (by omega)]; simp
      · refine hag _ w4 ⟨k + 1, _, by omega, ?_, f3.trans' f4, o4⟩ ?_
        · simp only [wrap_i64 (x := (k : Int) + 1) (by omega) (by omega)]; omega
        · simp only [wrap_i64 (x := (k : Int) + 1) (by omega) (by omega)]; omega
    · have hx : ∀ k, x.inB k → w1.heap.size ≤ k := fun k hk => (o2.inB hk).1
      have s3 := f3.size
      have d3 : DriveAt w3 gd L D' := d2.fr f3 fun k hk hx2 => by have := hx k hx2; have := d1.lt hk; omega
      have t3 : TwinAt w3 B gt T lf ar ks D' := t2.fr f3 (fun k _ hx2 => by
        have h1 := hx k hx2
        refine ⟨fun e => by have := t1.var.lt; omega, fun ho2 => ?_⟩
        have := t1.lt k ho2
        omega) fun k hx2 => by have := hx k hx2; have := h.le; omega
      refine hK w3 L lf ar ks D' ?_ (h.make (by omega) d3 t3 h.inD h.dis lk hs) lk
      refine ((f1.mono fun k _ e => ?_).trans f2 fun k _ e => ?_).trans f3 fun k _ hx2 => ?_
      · have e2 : k = gt := e; have := h.t.ge.1; omega
      · have e2 : k = gd := e; omega
      · have := hx k hx2; have := h.le; omega
  · refine cond_i (fun _ => ?_) (fun hz => by simp at hz)
    refine b2s_i o2.rd ?_
    refine b2s_i hu2 ?_
    exact hJ _ _ ⟨by simp, rfl⟩
end
end Go.Proofs.Ytjphpadgbhegaaa
