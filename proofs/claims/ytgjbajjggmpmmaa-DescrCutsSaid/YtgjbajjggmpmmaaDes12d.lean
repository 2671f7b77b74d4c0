/- Layer 12 (descr): a descriptor's bytes, the program's and the document's. -/
import Derived.Test.YtgjbajjggmpmmaaDes12c
import Derived.Test.YtgjbajjggmpmmaaCat
set_option linter.unusedSimpArgs false
set_option linter.unusedVariables false
namespace Go.S
open Go Go.Eng
theorem put_fit {bs : List UInt8} {z n : Nat} (hz : 1 ≤ z ∧ z ≤ 8) (hn : n < 256 ^ z) : put bs z n = (bs ++ be z n, 0) := by
  unfold put
  rw [if_neg (by omega), if_neg, Int.toNat_natCast, Int.toNat_natCast]
  rintro (h | ⟨_, h⟩)
  · omega
  · apply h
    rw [Int.toNat_natCast, show ((256 : Int) ^ z) = ((256 ^ z : Nat) : Int) by simp, ← Int.natCast_ediv, Nat.div_eq_of_lt hn]; rfl
theorem tmod_n4 (n : Nat) : Int.tmod (n : Int) 8 = ((n % 8 : Nat) : Int) := by
  rw [Int.tmod_eq_emod_of_nonneg (by omega)]; omega
theorem pad_8 {bs : List UInt8} (h : bs.length ≤ 100000) : (pad bs 8).1 = Des.pad8 bs := by
  have ha : align (bs.length : Int) 8 = (((bs.length : Int) + 8 - 1) / 8 * 8, 0) := by
    unfold align
    rw [if_neg (by omega), if_neg (by omega), if_pos (by omega)]
  unfold pad Des.pad8
  rw [ha]
  rw [if_neg (by simp)]
  dsimp only
  congr 2
  omega
namespace Des
def nums (d : Des) : List (Nat × Nat) := [(4, d.alg.toNat), (8, d.size.toNat), (4, d.blk.toNat), (8, d.off.toNat), (4, d.loc.toNat)]
theorem nums_hd (d : Des) : (d.nums.flatMap fun p => be p.1 p.2) = d.hd := by simp [nums, hd, List.append_assoc]
theorem nums_fit {d : Des} (f : d.Fits) : ∀ p ∈ d.nums, (p.1 = 4 ∨ p.1 = 8) ∧ p.2 < 256 ^ p.1 ∧ p.2 ≤ 1099511627776 := by
  obtain ⟨f0, f1, f2, f3, f4, f5, _⟩ := f
  have b8 : ∀ {n : Nat}, n ≤ 1099511627776 → n < 256 ^ 8 := fun h => Nat.lt_of_le_of_lt h (by decide)
  intro p hp
  simp only [nums, List.mem_cons, List.not_mem_nil, or_false] at hp
  rcases hp with rfl | rfl | rfl | rfl | rfl
  · exact ⟨.inl rfl, four (by show d.alg.toNat ≤ _; omega), by show d.alg.toNat ≤ _; omega⟩
  · exact ⟨.inr rfl, b8 (by show d.size.toNat ≤ _; omega), by show d.size.toNat ≤ _; omega⟩
  · exact ⟨.inl rfl, four (by show d.blk.toNat ≤ _; omega), by show d.blk.toNat ≤ _; omega⟩
  · exact ⟨.inr rfl, b8 (by show d.off.toNat ≤ _; omega), by show d.off.toNat ≤ _; omega⟩
  · exact ⟨.inl rfl, four (by show d.loc.toNat ≤ _; omega), by show d.loc.toNat ≤ _; omega⟩
end Des
end Go.S
namespace Go.Proofs.Ytgjbajjggmpmmaa
open Go Go.Eng
theorem equal_s {s t : Sl} {xs ys : List UInt8} {K : Bool → World → Prop} {w : World} (hs : Bts w s xs) (ht : Bts w t ys) (hK : K (xs == ys) w) : callS Try.prog 53 #[.slice s.a s.len s.cap, .slice t.a t.len t.cap] [.one .bool] K w := by
  refine f53_ok ?_
  unfold f53
  refine b2s_i hs ?_
  refine b2s_i ht ?_
  simp only [str_toList]
  exact hK
theorem be_cons8 : ∀ (k n : Nat), S.be (k + 1) n = UInt8.ofNat (n / 256 ^ k) :: S.be k n
  | 0, n => by simp [S.be]
  | k + 1, n => by
    show S.be (k + 1) (n / 256) ++ [UInt8.ofNat n] = _
    rw [be_cons8 k (n / 256), Nat.div_div_eq_div_mul, show 256 * 256 ^ k = 256 ^ (k + 1) by rw [Nat.pow_succ, Nat.mul_comm]]
    rfl
theorem number_s {n size : Nat} {K : Sl → World → Prop} {w : World} (hz : size ≤ 1000) (hn : n < 9223372036854775808) (hK : ∀ v w', Ext w w' → OwnB w' w.heap.size v (S.be size n) → K v w') :
    callS Try.prog 50 #[.int .i64 (n : Int), .int .i64 (size : Int)] [.one .slc] K w := by
  refine f50_ok ?_
  unfold f50
  refine makeB_i (by omega) (by omega) fun v w1 e1 o1 => ?_
  have hvl := OwnB.len o1
  simp only [Int.toNat_natCast, List.length_replicate] at hvl o1
  rw [wrap_i64 (by omega) (by omega)]
  refine loop_i (fun (s : Int × Int) w' => ∃ k : Nat, k ≤ size ∧ s.2 = (size : Int) - 1 - k ∧ s.1 = ((n / 256 ^ k : Nat) : Int) ∧ Ext w w' ∧ OwnB w' w.heap.size v (List.replicate (size - k) 0 ++ S.be k n)) (fun s _ => (s.2 + 1).toNat) ⟨0, by omega, by simp, by simp, e1, by simpa [S.be] using o1⟩ ?_
  rintro ⟨m, i⟩ w2 again ⟨k, hk, hi, hm, e2, o2⟩ hag
  dsimp only at hi hm o2 ⊢
  subst hi
  subst hm
  refine cond_i (fun hlt => ?_) (fun hge => ?_)
  · have hk' : k < size := by simp at hlt; omega
    have hq : n / 256 ^ k < 9223372036854775808 := Nat.lt_of_le_of_lt (Nat.div_le_self _ _) hn
    refine put1_i (b := UInt8.ofNat (n / 256 ^ k)) o2 (by omega) (by omega) ?_ fun w3 f3 o3 => ?_
    · rw [Int.tmod_eq_emod_of_nonneg (Int.natCast_nonneg _), wrap_u8_mod]
      simp only [UInt8.toNat_ofNat']
      omega
    · refine hag _ w3 ⟨k + 1, by omega, ?_, ?_, Ext.own e2 f3 fun i hi => (o2.inB hi).1, ?_⟩ ?_
      · simp only [wrap_i64 (x := (size : Int) - 1 - k - 1) (by omega) (by omega)]; omega
      · have hp : n / 256 ^ (k + 1) = n / 256 ^ k / 256 := by rw [Nat.pow_succ, Nat.div_div_eq_div_mul]
        rw [hp]
        generalize n / 256 ^ k = q at hq ⊢
        simp only [Int.tdiv_eq_ediv_of_nonneg (show (0 : Int) ≤ (q : Int) by omega)]
        rw [wrap_i64 (by omega) (by omega)]; omega
      · have hset : (List.replicate (size - k) (0 : UInt8) ++ S.be k n).set ((size : Int) - 1 - k).toNat (UInt8.ofNat (n / 256 ^ k)) = List.replicate (size - (k + 1)) 0 ++ S.be (k + 1) n := by
          rw [show ((size : Int) - 1 - k).toNat = size - (k + 1) by omega, show size - k = (size - (k + 1)) + 1 by omega, List.replicate_succ', List.append_assoc, List.set_append_right _ _ (by simp), be_cons8]
          simp
        rw [hset] at o3
        exact o3
      · simp only [wrap_i64 (x := (size : Int) - 1 - k - 1) (by omega) (by omega)]; omega
  · have hk' : k = size := by simp at hge; omega
    subst hk'
    exact hK v w2 e2 (by simpa using o2)
/-- The texts of a descriptor as a list of slices. -/
abbrev DM.txp (d : DM) (x : Sl) : List (Sl × List UInt8) := [(x, d.name), d.salt, d.dig, d.key, d.val]
theorem txp_flat (d : DM) (x : Sl) : flatB (d.txp x) = d.pure.txs.flatten := by simp [flatB, DM.txp, S.Des.txs, DM.pure]
theorem parts_i {t e : Nat} {z : Value} [SliceTy Try.prog t e 1 z] {d : DM} {x : Sl} {K : Sl → World → Prop} {w : World} (ok : d.Ok w) (hx : Bts w x d.name) (hK : ∀ v w', Ext w w' → Parts w' v (d.txp x) → K v w') :
    semS Try.prog (Instr.buildSlice t 5 #[(0, (.slice x.a x.len x.cap)), (1, (.slice d.salt.1.a d.salt.1.len d.salt.1.cap)), (2, (.slice d.dig.1.a d.dig.1.len d.dig.1.cap)), (3, (.slice d.key.1.a d.key.1.len d.key.1.cap)), (4, (.slice d.val.1.a d.val.1.len d.val.1.cap))]) (.one .slc) K w := by
  refine buildV_i [slV x, slV d.salt.1, slV d.dig.1, slV d.key.1, slV d.val.1] rfl (fun v hv => ?_) rfl (by decide) fun v w1 e1 o1 => ?_
  · simp only [List.mem_cons, List.not_mem_nil, or_false] at hv
    rcases hv with rfl | rfl | rfl | rfl | rfl <;> exact ⟨rfl, rfl⟩
  · refine hK v w1 e1 ⟨o1.rd, fun y hy => ?_⟩
    simp only [DM.txp, List.mem_cons, List.not_mem_nil, or_false] at hy
    rcases hy with rfl | rfl | rfl | rfl | rfl
    · exact hx.ext e1
    · exact ok.salt.ext e1
    · exact ok.dig.ext e1
    · exact ok.key.ext e1
    · exact ok.val.ext e1
theorem parts_s {d : DM} {K : Sl → World → Prop} {w : World} (ok : d.Ok w) (hK : ∀ v x w', Ext w w' → Parts w' v (d.txp x) → K v w') :
    callS Try.prog 46 #[.agg d.cells.toArray] [.one .slc] K w := by
  refine f46_ok ?_
  unfold f46
  refine box_i fun g w1 e1 hg v1 => ?_
  have v1 : Var w1 g d.cells := v1
  refine ldN v1 ?_
  refine s2b_i fun x w2 e2 o2 => ?_
  have v2 := v1.ext e2
  refine ldS v2 7 rfl (ldS v2 8 rfl (ldS v2 9 rfl (ldS v2 10 rfl ?_)))
  exact parts_i (ok.ext (e1.trans e2)) o2.rd fun v w3 e3 hp => hK v x w3 ((e1.trans e2).trans e3) hp
def pr (p : Nat × Nat) : List Value := [.int .i64 (p.1 : Int), .int .i64 (p.2 : Int)]
theorem txs_le {d : S.Des} (f : d.Fits) : ∀ t ∈ d.txs, t.length ≤ 1032 := fun t ht => by
  simp only [S.Des.txs, List.mem_cons, List.not_mem_nil, or_false] at ht
  have := f.name
  have := f.salt
  have := f.dig
  have := f.key
  have := f.val
  rcases ht with rfl | rfl | rfl | rfl | rfl <;> omega
theorem lens_take_le {l : List (List UInt8)} (j : Nat) (h : l.length ≤ 5) : ((l.take j).flatMap fun t => S.be 4 t.length).length ≤ 20 := by
  have : ∀ l : List (List UInt8), (l.flatMap fun t => S.be 4 t.length).length = 4 * l.length := fun l => by
    induction l with
    | nil => rfl
    | cons a l ih => rw [List.flatMap_cons, List.length_append, S.be_length, ih, List.length_cons]; omega
  rw [this, List.length_take]; omega
theorem body_s {d : DM} {K : Sl → World → Prop} {w : World} (hr : d.pure.right = true) (ok : d.Ok w) (hK : ∀ v w', Ext w w' → OwnB w' w.heap.size v d.pure.body → K v w') :
    callS Try.prog 33 #[.agg d.cells.toArray] [.one .slc] K w := by
  refine f33_ok ?_
  unfold f33
  have f := S.Des.fits hr
  obtain ⟨f0, f1, f2, f3, f4, f5, _⟩ := f
  refine box_i fun g w1 e1 hg v1 => ?_
  have v1 : Var w1 g d.cells := v1
  refine ldI v1 1 rfl (ldI v1 2 rfl (ldI v1 3 rfl (ldI v1 4 rfl (ldI v1 5 rfl ?_))))
  have hfl : ((d.pure.nums).map pr).flatten = [.int .i64 4, .int .i64 d.alg, .int .i64 8, .int .i64 d.size, .int .i64 4, .int .i64 d.blk, .int .i64 8, .int .i64 d.off, .int .i64 4, .int .i64 d.loc] := by
    simp only [S.Des.nums, List.map, pr, List.flatten, List.append_nil, List.cons_append, List.nil_append]
    rw [Int.toNat_of_nonneg f1.1, Int.toNat_of_nonneg f2.1, Int.toNat_of_nonneg f3.1, Int.toNat_of_nonneg f4.1, Int.toNat_of_nonneg f5.1]; rfl
  refine buildSlice_i (sz := 2) #[.int .i64 4, .int .i64 d.alg, .int .i64 8, .int .i64 d.size, .int .i64 4, .int .i64 d.blk, .int .i64 8, .int .i64 d.off, .int .i64 4, .int .i64 d.loc] (by kernel_rfl) rfl (by omega) fun u w3 e3 o3 hul => ?_
  have rds : Rds w3 u 2 (d.pure.nums.map pr) := ⟨by rw [hfl]; exact o3.rd, by simp [hul, S.Des.nums], fun c hc => by
    obtain ⟨p, _, rfl⟩ := List.mem_map.1 hc; rfl⟩
  obtain ⟨ua, hua⟩ := rds.some (by omega)
  have hfit := S.Des.nums_fit (S.Des.fits hr)
  have hhd : (d.pure.nums.flatMap fun p => S.be p.1 p.2).length = 28 := by rw [S.Des.nums_hd, S.Des.hd_len]
  have hnl : d.pure.nums.length = 5 := rfl
  have tkl : ∀ j, ((d.pure.nums.take j).flatMap fun p => S.be p.1 p.2).length ≤ 28 := fun j => by
    rw [← hhd]
    conv => rhs; rw [← List.take_append_drop j d.pure.nums, List.flatMap_append, List.length_append]
    omega
  refine loop_i (fun (s : Sl × Int) w' => ∃ j : Nat, j ≤ 5 ∧ s.2 = j ∧ Ext w3 w' ∧ OwnB w' w1.heap.size s.1 ((d.pure.nums.take j).flatMap fun p => S.be p.1 p.2)) (fun s _ => 5 - s.2.toNat) ⟨0, by omega, rfl, Fr.refl _ _, Own.nilSl _ _ _⟩ ?_
  rintro ⟨s, i⟩ w4 again ⟨j, hj, hi, e4, o4⟩ hag
  dsimp only at hi o4 ⊢
  subst hi
  have tkj := tkl j
  refine cond_i (fun hlt => ?_) (fun hge => ?_)
  · have hj4 : j < 5 := by have : (j : Int) < (u.len : Int) := of_decide_eq_true hlt
                           omega
    have hp : (d.pure.nums.map pr)[j]? = some (pr (d.pure.nums.getD j (0, 0))) := by simp [show j < d.pure.nums.length from hj4]
    have ht1 : d.pure.nums.take (j + 1) = d.pure.nums.take j ++ [d.pure.nums.getD j (0, 0)] := by
      rw [List.take_succ_eq_append_getElem hj4, List.getD_eq_getElem?_getD, List.getElem?_eq_getElem hj4, Option.getD_some]
    have hq := hfit (d.pure.nums.getD j (0, 0)) (by rw [List.getD_eq_getElem?_getD, List.getElem?_eq_getElem hj4]; exact List.getElem_mem hj4)
    generalize d.pure.nums.getD j (0, 0) = p at hp ht1 hq
    obtain ⟨q1, q2, q3⟩ := hq
    refine ix_i hua (by omega) (by omega) ?_
    rw [Int.toNat_natCast]
    refine ldA_i (cs := pr p) rfl ((rds.ext e4).elem hua hp) ?_
    show semS Try.prog (Instr.alloc _ true (.tuple #[])) (.one .adr) _ w4
    refine alloc_i fun g5 w5 e5 hg5 v5 => ?_
    refine stV_i (n := 2) (vs := pr p) 0 v5 rfl (Nat.le_refl 2) (fun v hv => by simp only [pr, List.mem_cons, List.not_mem_nil, or_false] at hv; rcases hv with rfl | rfl <;> rfl) fun w6 f6 v6 => ?_
    have v6 : Var w6 g5 (pr p) := v6
    have e46 := Fr.own1 e5 f6 hg5
    refine ixA_i (by omega) (by omega) ?_
    refine ld1_i (l := .int .i64) (p.1 : Int) v6 rfl ?_
    refine ixA_i (by omega) (by omega) ?_
    refine ld1_i (l := .int .i64) (p.2 : Int) v6 rfl ?_
    have o6 := o4.ext e46
    refine put_s o6.rd (by omega) (by constructor <;> omega) (by constructor <;> omega) fun v w7 e7 o7 => ?_
    rw [S.put_fit (by omega) q2] at o7
    refine hag _ w7 ⟨j + 1, by omega, ?_, (e4.trans e46).trans e7, ?_⟩ ?_
    · simp only [wrap_i64 (x := (j : Int) + 1) (by omega) (by omega)]; omega
    · rw [ht1, List.flatMap_append, List.flatMap_cons, List.flatMap_nil, List.append_nil]
      exact o7.base (B' := w1.heap.size) (by have := ((e3.trans e4).trans e46).size; omega)
    · simp only [wrap_i64 (x := (j : Int) + 1) (by omega) (by omega)]; omega
  · have hj4 : j = 5 := by have : ¬ (j : Int) < (u.len : Int) := of_decide_eq_false hge
                           omega
    subst hj4
    rw [show d.pure.nums.take 5 = d.pure.nums from rfl, S.Des.nums_hd] at o4
    have e14 := e3.trans e4
    refine ldD_i (v1.ext e14) ?_
    refine parts_s (ok.ext (e1.trans e14)) fun r x w5 e5 hp => ?_
    have hrl : r.len = 5 := hp.len
    have hxs := txs_le (S.Des.fits hr)
    have hll : ∀ j, ((d.pure.txs.take j).flatMap fun t => S.be 4 t.length).length ≤ 20 := fun j => lens_take_le j (by simp [S.Des.txs])
    refine loop_i (fun (s : Sl × Int) w' => ∃ j : Nat, j ≤ 5 ∧ s.2 = j ∧ Ext w5 w' ∧ OwnB w' w1.heap.size s.1 (d.pure.hd ++ (d.pure.txs.take j).flatMap fun t => S.be 4 t.length)) (fun s _ => 5 - s.2.toNat) ⟨0, by omega, rfl, Fr.refl _ _, by rw [List.take_zero, List.flatMap_nil, List.append_nil]; exact o4.ext e5⟩ ?_
    rintro ⟨s2, i2⟩ w6 again2 ⟨j, hj, hi2, e6, o6⟩ hag2
    dsimp only at hi2 o6 ⊢
    subst hi2
    have hlj := hll j
    have hdl := S.Des.hd_len d.pure
    refine cond_i (fun hlt => ?_) (fun hge => ?_)
    · have hj4 : j < 5 := by have : (j : Int) < (r.len : Int) := of_decide_eq_true hlt
                             omega
      have hp6 := hp.ext e6
      refine part_i hp6 (by omega) (by rw [Int.toNat_natCast]; exact hj4) ?_
      simp only [Int.toNat_natCast]
      have hbl := Bts.len (hp6.each _ (List.getElem_mem (l := d.txp x) hj4))
      have htx : ((d.txp x)[j]'hj4).2 = d.pure.txs[j]'hj4 := by
        have : j = 0 ∨ j = 1 ∨ j = 2 ∨ j = 3 ∨ j = 4 := by omega
        rcases this with rfl | rfl | rfl | rfl | rfl <;> rfl
      rw [htx] at hbl
      have htl := hxs _ (List.getElem_mem (l := d.pure.txs) hj4)
      have ht1 : d.pure.txs.take (j + 1) = d.pure.txs.take j ++ [d.pure.txs[j]'hj4] := List.take_succ_eq_append_getElem hj4
      rw [show (((d.txp x)[j]'hj4).1.len : Int) = (((d.pure.txs[j]'hj4).length : Nat) : Int) by rw [hbl]]
      generalize d.pure.txs[j]'hj4 = t at ht1 htl
      refine put_s (size := ((4 : Nat) : Int)) o6.rd (by rw [List.length_append]; omega) (by constructor <;> omega) (by constructor <;> omega) fun v w7 e7 o7 => ?_
      rw [S.put_fit (by omega) (S.Des.four (by omega))] at o7
      refine hag2 _ w7 ⟨j + 1, by omega, ?_, e6.trans e7, ?_⟩ ?_
      · simp only [wrap_i64 (x := (j : Int) + 1) (by omega) (by omega)]; omega
      · rw [ht1, List.flatMap_append, List.flatMap_cons, List.flatMap_nil, List.append_nil, ← List.append_assoc]
        exact o7.base (B' := w1.heap.size) (by have := ((e14.trans e5).trans e6).size; omega)
      · simp only [wrap_i64 (x := (j : Int) + 1) (by omega) (by omega)]; omega
    · have hj4 : j = 5 := by have : ¬ (j : Int) < (r.len : Int) := of_decide_eq_false hge
                             omega
      subst hj4
      have hln : (d.pure.txs.take 5).flatMap (fun t => S.be 4 t.length) = d.pure.lens := rfl
      rw [hln] at o6
      have e16 := (e14.trans e5).trans e6
      refine ldD_i (v1.ext e16) ?_
      refine parts_s (ok.ext (e1.trans e16)) fun r2 x2 w7 e7 hp2 => ?_
      have htl := S.Des.raw_len d.pure
      have htxl := S.Des.txl_le (S.Des.fits hr)
      have hfl2 : d.pure.txs.flatten.length = d.pure.txl := by simp [S.Des.txs, S.Des.txl]; omega
      refine concat_s hp2 (by simp) (by rw [txp_flat, hfl2]; omega) fun c w8 e8 o8 => ?_
      rw [txp_flat] at o8
      have o68 := (o6.ext e7).ext e8
      refine two_i (bs := d.pure.hd ++ d.pure.lens) (cs := d.pure.txs.flatten) o68.rd o8.rd fun y w9 e9 hp3 => ?_
      have hraw : flatB [(s2, d.pure.hd ++ d.pure.lens), (c, d.pure.txs.flatten)] = d.pure.raw := by simp [flatB, S.Des.raw]
      refine concat_s hp3 (by simp) (by rw [hraw]; omega) fun c2 w10 e10 o10 => ?_
      rw [hraw] at o10
      refine pad_s o10.rd (by omega) (by constructor <;> omega) fun v w11 e11 o11 => ?_
      rw [S.pad_8 (by omega)] at o11
      have E := ((((e1.trans e16).trans e7).trans e8).trans e9).trans e10
      exact hK v w11 (E.trans e11) (o11.base E.size)
/-- Bytes appended. -/
theorem app_i {t e : Nat} {z : Value} [SliceTy Try.prog t e 1 z] {s x : Sl} {us bs : List UInt8} {w0 w : World} {K : Sl → World → Prop} (e0 : Ext w0 w) (ho : OwnB w w0.heap.size s us) (hx : Bts w x bs) (hl : us.length + bs.length ≤ 100000) (hK : ∀ v w', Ext w0 w' → OwnB w' w0.heap.size v (us ++ bs) → K v w') :
    semS Try.prog (Builtin.append_ #[t, t] t #[.slice s.a s.len s.cap, .slice x.a x.len x.cap]) (.one .slc) K w :=
  appendB_i ho hx (by omega) e0.size fun v w' f o _ => hK v w' (Ext.own e0 f fun i hi => (ho.inB hi).1) o
end Go.Proofs.Ytgjbajjggmpmmaa
