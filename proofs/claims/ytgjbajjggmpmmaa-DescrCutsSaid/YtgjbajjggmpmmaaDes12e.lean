/- Layer 12 (descr): lists of descriptors are written, by the program and by the document. -/
import Derived.Test.YtgjbajjggmpmmaaDes12d
set_option linter.unusedSimpArgs false
set_option linter.unusedVariables false
namespace Go.Proofs.Ytgjbajjggmpmmaa
open Go Go.Eng
theorem numI_s {n : Int} {size : Nat} {K : Sl → World → Prop} {w : World} (hz : size ≤ 1000) (h0 : 0 ≤ n) (h1 : n ≤ 4611686018427387904) (hK : ∀ v w', Ext w w' → OwnB w' w.heap.size v (S.be size n.toNat) → K v w') :
    callS Try.prog 50 #[.int .i64 n, .int .i64 (size : Int)] [.one .slc] K w := by
  obtain ⟨m, rfl⟩ : ∃ m : Nat, n = m := ⟨n.toNat, by omega⟩
  exact number_s hz (by omega) (by rwa [Int.toNat_natCast] at hK)
theorem DM.Ok.frN {S : Nat → Prop} {w0 w w' : World} {d : DM} (h0 : d.Ok w0) (e : Ext w0 w) (f : Fr S w w') (hs : ∀ k, k < w0.heap.size → ¬ S k) : d.Ok w' := by
  have key : ∀ {s : Sl} {bs : List UInt8}, Bts w0 s bs → Bts w' s bs := fun {s bs} h => rd_fr_ne (Rd.ext h e) f fun hne a ha => hs _ (rd_lt h hne ha)
  exact ⟨h0.kind, h0.alg, h0.size, h0.blk, h0.off, h0.loc, h0.name, key h0.salt, key h0.dig, key h0.key, key h0.val⟩
theorem appT_i {t e : Nat} {z : Value} [SliceTy Try.prog t e 1 z] {T : Nat → Prop} {s x : Sl} {us bs : List UInt8} {B : Nat} {wp w : World} {K : Sl → World → Prop} (f0 : Fr T wp w) (ho : OwnB w B s us) (hT : ∀ k, s.inB k → T k) (hBig : ∀ k, wp.heap.size ≤ k → T k) (hB : B ≤ w.heap.size) (hx : Bts w x bs) (hl : us.length + bs.length ≤ 100000)
    (hK : ∀ v w', Fr T wp w' → OwnB w' B v (us ++ bs) → (∀ k, v.inB k → T k) → K v w') :
    semS Try.prog (Builtin.append_ #[t, t] t #[.slice s.a s.len s.cap, .slice x.a x.len x.cap]) (.one .slc) K w :=
  appendB_i ho hx (by omega) hB fun v w' f o hin => hK v w' (f0.trans f fun i _ hi => hT i hi) o fun k hk => (hin k hk).elim (hT k) fun h => hBig k (Nat.le_trans f0.size h)
theorem rbytes_s {d : DM} {K : Sl → World → Prop} {w : World} (hr : d.pure.right = true) (ok : d.Ok w) (hK : ∀ v w', Ext w w' → OwnB w' w.heap.size v d.pure.enc → K v w') :
    callS Try.prog 37 #[.agg d.cells.toArray] [.one .slc] K w := by
  refine f37_ok ?_
  unfold f37
  have hf := S.Des.fits hr
  obtain ⟨f0, f1, f2, f3, f4, f5, _⟩ := S.Des.fits hr
  have g0 : 0 ≤ d.kind ∧ d.kind ≤ 4 := f0
  have g1 : 0 ≤ d.alg ∧ d.alg ≤ 2 := f1
  have g2 : 0 ≤ d.size ∧ d.size ≤ 1099511627776 := f2
  have g3 : 0 ≤ d.blk ∧ d.blk ≤ 4096 := f3
  have g4 : 0 ≤ d.off ∧ d.off ≤ 1099511627776 := f4
  have g5 : 0 ≤ d.loc ∧ d.loc ≤ 31 := f5
  refine box_i fun g w1 e1 hg v1 => ?_
  have v1 : Var w1 g d.cells := v1
  have s1 := e1.size
  refine ldI v1 1 rfl ?_
  refine numI_s (size := 4) (by omega) (by omega) (by omega) fun r2 w2 E2 o2 => ?_
  refine app_i (s := Sl.nil) (us := []) E2 (Own.nilSl _ _ 1) o2.rd (by simp [S.be_length]) fun b3 w3 E3 o3 => ?_
  refine ldI (v1.ext E3) 2 rfl ?_
  refine numI_s (size := 8) (by omega) (by omega) (by omega) fun r4 w4 e4 o4 => ?_
  refine app_i (E3.trans e4) (o3.ext e4) o4.rd (by simp [S.be_length]) fun b5 w5 E5 o5 => ?_
  refine ldI (v1.ext E5) 3 rfl ?_
  refine numI_s (size := 4) (by omega) (by omega) (by omega) fun r6 w6 e6 o6 => ?_
  refine app_i (E5.trans e6) (o5.ext e6) o6.rd (by simp [S.be_length]) fun b7 w7 E7 o7 => ?_
  refine ldI (v1.ext E7) 4 rfl ?_
  refine numI_s (size := 8) (by omega) (by omega) (by omega) fun r8 w8 e8 o8 => ?_
  refine app_i (E7.trans e8) (o7.ext e8) o8.rd (by simp [S.be_length]) fun b9 w9 E9 o9 => ?_
  refine ldI (v1.ext E9) 5 rfl ?_
  refine numI_s (size := 4) (by omega) (by omega) (by omega) fun r10 w10 e10 o10 => ?_
  refine app_i (E9.trans e10) (o9.ext e10) o10.rd (by simp [S.be_length]) fun b11 w11 E11 o11 => ?_
  have o11 : OwnB w11 w1.heap.size b11 d.pure.hd := o11
  refine ldN (v1.ext E11) ?_
  refine s2b_i fun x w12 e12 ox => ?_
  have v12 := (v1.ext E11).ext e12
  refine ldS v12 7 rfl (ldS v12 8 rfl (ldS v12 9 rfl (ldS v12 10 rfl ?_)))
  have ok1 : d.Ok w1 := ok.ext e1
  refine buildV_i [slV x, slV d.salt.1, slV d.dig.1, slV d.key.1, slV d.val.1] rfl (fun v hv => ?_) rfl (by decide) fun u wp ep ou => ?_
  · simp only [List.mem_cons, List.not_mem_nil, or_false] at hv
    rcases hv with rfl | rfl | rfl | rfl | rfl <;> exact ⟨rfl, rfl⟩
  have sw : w1.heap.size ≤ w11.heap.size := E11.size
  have s12 := e12.size
  have sp := ep.size
  let T : Nat → Prop := fun k => (w1.heap.size ≤ k ∧ k < w11.heap.size) ∨ wp.heap.size ≤ k
  have hBig : ∀ k, wp.heap.size ≤ k → T k := fun k hk => .inr hk
  have Ep : Ext w1 wp := (E11.trans e12).trans ep
  have oxp := ox.ext ep
  have hpar : ∀ w', Fr T wp w' → Parts w' u (d.txp x) := fun w' f => by
    have row : Own w' w12.heap.size u 1 _ := ou.fr f fun a ha h => by
      have h2 := ou.inB ⟨a, ha, rfl⟩
      rcases h with h | h <;> omega
    have hx : OwnB w' w11.heap.size x d.name := oxp.fr f fun a ha h => by
      have h1 := ox.inB ⟨a, ha, rfl⟩
      rcases h with h | h <;> omega
    have okw : d.Ok w' := ok1.frN Ep f fun k hk h => by rcases h with h | h <;> omega
    refine ⟨row.rd, fun y hy => ?_⟩
    simp only [DM.txp, List.mem_cons, List.not_mem_nil, or_false] at hy
    rcases hy with rfl | rfl | rfl | rfl | rfl
    · exact hx.rd
    · exact okw.salt
    · exact okw.dig
    · exact okw.key
    · exact okw.val
  have hxs := txs_le hf
  have hll : ∀ j, ((d.pure.txs.take j).flatMap fun t => S.be 4 t.length).length ≤ 20 := fun j => lens_take_le j (by simp [S.Des.txs])
  have hdl := S.Des.hd_len d.pure
  have htx : ∀ (j : Nat) (hj : j < 5), ((d.txp x)[j]'hj).2 = d.pure.txs[j]'hj := fun j hj => by
    have : j = 0 ∨ j = 1 ∨ j = 2 ∨ j = 3 ∨ j = 4 := by omega
    rcases this with rfl | rfl | rfl | rfl | rfl <;> rfl
  have b11T : ∀ k, b11.inB k → T k := fun k hk => .inl ⟨(o11.inB hk).1, (o11.inB hk).2⟩
  have o11p := (o11.ext e12).ext ep
  refine loop_i (fun (s : Sl × Int) w' => ∃ j : Nat, j ≤ 5 ∧ s.2 = j ∧ Fr T wp w' ∧ OwnB w' w1.heap.size s.1 (d.pure.hd ++ (d.pure.txs.take j).flatMap fun t => S.be 4 t.length) ∧ ∀ k, s.1.inB k → T k) (fun s _ => 5 - s.2.toNat) ⟨0, by omega, rfl, Fr.refl _ _, by rw [List.take_zero, List.flatMap_nil, List.append_nil]; exact o11p, b11T⟩ ?_
  rintro ⟨s2, i2⟩ w13 again ⟨j, hj, hi2, f13, o13, t13⟩ hag
  dsimp only at hi2 o13 t13 ⊢
  subst hi2
  have hlj := hll j
  refine cond_i (fun hlt => ?_) (fun hge => ?_)
  · have hj5 : j < 5 := by have : (j : Int) < 5 := of_decide_eq_true hlt
                           omega
    have hp := hpar w13 f13
    refine part_i hp (by omega) (by rw [Int.toNat_natCast]; exact hj5) ?_
    simp only [Int.toNat_natCast]
    have hbl := Bts.len (hp.each _ (List.getElem_mem (l := d.txp x) hj5))
    rw [htx j hj5] at hbl
    have htl := hxs _ (List.getElem_mem (l := d.pure.txs) hj5)
    have ht1 : d.pure.txs.take (j + 1) = d.pure.txs.take j ++ [d.pure.txs[j]'hj5] := List.take_succ_eq_append_getElem hj5
    rw [show (((d.txp x)[j]'hj5).1.len : Int) = (((d.pure.txs[j]'hj5).length : Nat) : Int) by rw [hbl]]
    generalize d.pure.txs[j]'hj5 = t at ht1 htl
    refine numI_s (size := 4) (by omega) (by omega) (by omega) fun r14 w14 e14 o14 => ?_
    rw [Int.toNat_natCast] at o14
    refine appT_i (f13.then e14) (o13.ext e14) t13 hBig (by have := (f13.then e14).size; omega) o14.rd (by rw [List.length_append, S.be_length]; omega) fun v w15 f15 o15 t15 => ?_
    refine hag _ w15 ⟨j + 1, by omega, ?_, f15, ?_, t15⟩ ?_
    · simp only [wrap_i64 (x := (j : Int) + 1) (by omega) (by omega)]; omega
    · rw [ht1, List.flatMap_append, List.flatMap_cons, List.flatMap_nil, List.append_nil, ← List.append_assoc]
      exact o15
    · simp only [wrap_i64 (x := (j : Int) + 1) (by omega) (by omega)]; omega
  have hj5 : j = 5 := by have : ¬ (j : Int) < 5 := of_decide_eq_false hge
                         omega
  subst hj5
  have hln : (d.pure.txs.take 5).flatMap (fun t => S.be 4 t.length) = d.pure.lens := rfl
  rw [hln] at o13
  have htl := S.Des.raw_len d.pure
  have htxl := S.Des.txl_le hf
  have hln2 := S.Des.lens_len d.pure
  have hflt : ∀ j, ((d.pure.txs.take j).flatten).length ≤ d.pure.txl := fun j => by
    have h5 : d.pure.txs.flatten.length = d.pure.txl := by simp [S.Des.txs, S.Des.txl]; omega
    rw [← h5]
    conv => rhs; rw [← List.take_append_drop j d.pure.txs, List.flatten_append, List.length_append]
    omega
  refine loop_i (fun (s : Sl × Int) w' => ∃ j : Nat, j ≤ 5 ∧ s.2 = j ∧ Fr T wp w' ∧ OwnB w' w1.heap.size s.1 (d.pure.hd ++ d.pure.lens ++ (d.pure.txs.take j).flatten) ∧ ∀ k, s.1.inB k → T k) (fun s _ => 5 - s.2.toNat) ⟨0, by omega, rfl, f13, by rw [List.take_zero, List.flatten_nil, List.append_nil]; exact o13, t13⟩ ?_
  rintro ⟨s3, i3⟩ w16 again3 ⟨j, hj, hi3, f16, o16, t16⟩ hag3
  dsimp only at hi3 o16 t16 ⊢
  subst hi3
  have hfj := hflt j
  refine cond_i (fun hlt => ?_) (fun hge => ?_)
  · have hj5 : j < 5 := by have : (j : Int) < 5 := of_decide_eq_true hlt
                           omega
    have hp := hpar w16 f16
    refine part_i hp (by omega) (by rw [Int.toNat_natCast]; exact hj5) ?_
    simp only [Int.toNat_natCast]
    have hb := hp.each _ (List.getElem_mem (l := d.txp x) hj5)
    rw [htx j hj5] at hb
    have htl := hxs _ (List.getElem_mem (l := d.pure.txs) hj5)
    have ht1 : d.pure.txs.take (j + 1) = d.pure.txs.take j ++ [d.pure.txs[j]'hj5] := List.take_succ_eq_append_getElem hj5
    refine appT_i f16 o16 t16 hBig (by have := f16.size; omega) hb (by rw [List.length_append, List.length_append]; omega) fun v w17 f17 o17 t17 => ?_
    refine hag3 _ w17 ⟨j + 1, by omega, ?_, f17, ?_, t17⟩ ?_
    · simp only [wrap_i64 (x := (j : Int) + 1) (by omega) (by omega)]; omega
    · rw [ht1, List.flatten_append, List.flatten_cons, List.flatten_nil, List.append_nil, ← List.append_assoc]
      exact o17
    · simp only [wrap_i64 (x := (j : Int) + 1) (by omega) (by omega)]; omega
  have hj5 : j = 5 := by have : ¬ (j : Int) < 5 := of_decide_eq_false hge
                         omega
  subst hj5
  have o16 : OwnB w16 w1.heap.size s3 d.pure.raw := o16
  refine loop_i (fun (s : Sl) w' => ∃ j : Nat, j ≤ (8 - d.pure.raw.length % 8) % 8 ∧ Fr T wp w' ∧ OwnB w' w1.heap.size s (d.pure.raw ++ List.replicate j 0) ∧ ∀ k, s.inB k → T k) (fun s _ => 2000 - s.len) ⟨0, by omega, f16, by rw [List.replicate_zero, List.append_nil]; exact o16, t16⟩ ?_
  rintro s4 w18 again4 ⟨j, hj, f18, o18, t18⟩ hag4
  have hl4 := OwnB.len o18
  rw [List.length_append, List.length_replicate] at hl4
  rw [S.tmod_n4]
  refine cond_i (fun hne => ?_) (fun heq => ?_)
  · have hne' : (d.pure.raw.length + j) % 8 ≠ 0 := by
      intro h0
      rw [hl4, h0] at hne
      simp at hne
    refine buildB_i [0] rfl rfl (by decide) fun r19 w19 e19 o19 => ?_
    refine appT_i (f18.then e19) (o18.ext e19) t18 hBig (by have := (f18.then e19).size; omega) o19.rd (by rw [List.length_append, List.length_replicate]; simp; omega) fun v w20 f20 o20 t20 => ?_
    have hl20 := OwnB.len o20
    refine hag4 v w20 ⟨j + 1, by omega, f20, ?_, t20⟩ ?_
    · rw [List.replicate_succ', ← List.append_assoc]; exact o20
    · simp at hl20
      omega
  have heq' : (d.pure.raw.length + j) % 8 = 0 := by
    have h2 : ((s4.len % 8 : Nat) : Int) = 0 := by simpa using heq
    rw [hl4] at h2; omega
  have hjj : j = (8 - d.pure.raw.length % 8) % 8 := by omega
  have o18 : OwnB w18 w1.heap.size s4 d.pure.body := by rw [hjj] at o18; exact o18
  have hbody : d.pure.raw ++ List.replicate j 0 = d.pure.body := by rw [hjj]; rfl
  have hbl := S.Des.body_len d.pure
  have v18 : Var w18 g d.cells := (v1.ext Ep).fr f18 fun h => by have := v1.lt; rcases h with h | h <;> omega
  have s18 : w1.heap.size ≤ w18.heap.size := by have := f18.size; omega
  refine ldI v18 0 rfl ?_
  refine numI_s (size := 8) (by omega) (by omega) (by omega) fun r20 w20 e20 o20 => ?_
  have hl18 := OwnB.len o18
  rw [show (s4.len : Int) = ((d.pure.body.length : Nat) : Int) by rw [hl18]]
  refine numI_s (size := 8) (by omega) (by omega) (by omega) fun r21 w21 e21 o21 => ?_
  rw [Int.toNat_natCast] at o21
  refine appendB_i (B := w18.heap.size) (o20.ext e21) o21.rd (by simp [S.be_length]) (by have := (e20.trans e21).size; omega) fun r22 w22 f22 o22 hin22 => ?_
  have hb22 : Bts w22 s4 d.pure.body := ((o18.ext e20).ext e21).rd.fr f22 fun a ha h => by
    have h1 := (o18.inB ⟨a, ha, rfl⟩).2
    have h2 := (o20.inB h).1
    omega
  have F22 : Ext w18 w22 := Ext.own (e20.trans e21) f22 fun i hi => (o20.inB hi).1
  refine appendB_i o22 hb22 (by simp [S.be_length]; omega) F22.size fun r23 w23 f23 o23 _ => ?_
  have F23 : Ext w18 w23 := Ext.own F22 f23 fun i hi => (o22.inB hi).1
  refine hK r23 w23 ?_ (o23.base (by omega))
  have hT : Fr (fun k => w1.heap.size ≤ k) w1 w18 := Ep.fr.trans f18 fun k _ h => by rcases h with h | h <;> omega
  exact (Ext.own e1 hT fun k hk => by omega).trans F23
end Go.Proofs.Ytgjbajjggmpmmaa
