/- Layer 8 (place): how many blocks each level has, and the tree's bytes. -/
import Derived.Test.YtanjnmoonndfhaaPlc08a
set_option linter.unusedSimpArgs false
set_option linter.unusedVariables false
namespace Go.S
open Go Go.Eng
theorem up_i {n a : Nat} (hn : n ≤ 2199023255552) (ha : 1 ≤ a) (ha2 : a ≤ 4096) : IntKind.wrap .i64 (Int.tdiv (IntKind.wrap .i64 (IntKind.wrap .i64 ((n : Int) + (a : Int)) - 1)) (a : Int)) = (up n a : Int) := by
  rw [wrap_i64 (x := (n : Int) + a) (by omega) (by omega), wrap_i64 (x := (n : Int) + a - 1) (by omega) (by omega), Int.tdiv_eq_ediv_of_nonneg (by omega), show (n : Int) + a - 1 = ((n + a - 1 : Nat) : Int) by omega, ← Int.natCast_ediv]
  have h : (n + a - 1) / a ≤ n + a - 1 := Nat.div_le_self _ _
  show IntKind.wrap .i64 (((n + a - 1) / a : Nat) : Int) = (((n + a - 1) / a : Nat) : Int)
  generalize (n + a - 1) / a = q at h ⊢
  exact wrap_i64 (by omega) (by omega)
theorem up_def {n a : Nat} (ha : 1 ≤ a) : up n a = if n % a = 0 then n / a else n / a + 1 := by
  unfold up
  have h := Nat.div_add_mod n a
  have hr := Nat.mod_lt n (show a > 0 by omega)
  generalize n / a = q at h ⊢
  generalize n % a = r at h hr ⊢
  subst h
  by_cases h0 : r = 0
  · rw [if_pos h0, h0, show a * q + 0 + a - 1 = a * q + (a - 1) by omega, Nat.mul_add_div (by omega), Nat.div_eq_of_lt (by omega)]; rfl
  · rw [if_neg h0, show a * q + r + a - 1 = a * q + (a + (r - 1)) by omega, Nat.mul_add_div (by omega), show a + (r - 1) = a * 1 + (r - 1) by omega, Nat.mul_add_div (by omega), Nat.div_eq_of_lt (a := r - 1) (by omega)]
theorem tdiv_n (n a : Nat) : Int.tdiv (n : Int) (a : Int) = ((n / a : Nat) : Int) := by
  rw [Int.tdiv_eq_ediv_of_nonneg (by omega), ← Int.natCast_ediv]
theorem tmod_n (n a : Nat) : Int.tmod (n : Int) (a : Int) = ((n % a : Nat) : Int) := by
  rw [Int.tmod_eq_emod_of_nonneg (by omega), ← Int.natCast_emod]
end Go.S
namespace Go.Proofs.Ytanjnmoonndfhaa
open Go Go.Eng
def vI (n : Nat) : Value := .int .i64 (n : Int)
theorem vI_one {l : List Nat} : ∀ v ∈ l.map vI, v.oneCell' = true := fun v hv => by obtain ⟨x, _, rfl⟩ := List.mem_map.1 hv; rfl
section
variable {x : S.Shp}
theorem wrap_nat {n : Nat} (h : n ≤ 9223372036854775807) : IntKind.wrap .i64 (n : Int) = (n : Int) := wrap_i64 (by omega) (by omega)
theorem aN_i (o : x.Ok) : IntKind.wrap .i64 (Int.tdiv x.b x.d) = (x.aN : Int) := by
  rw [o.b, o.d, S.tdiv_n]
  have h : x.bN / x.dN ≤ x.bN := Nat.div_le_self _ _
  have h2 := o.b2
  exact wrap_nat (by omega)
theorem arity_s {K : Int → World → Prop} {w : World} (o : x.Ok) (hK : ∀ w', Ext w w' → K (x.aN : Int) w') : callS Try.prog 27 #[.agg #[.int .i64 x.s, .int .i64 x.b, .int .i64 x.d]] [.one (.int .i64)] K w := by
  refine f27_ok ?_
  unfold f27
  refine box_i fun g w1 e1 hg v1 => ?_
  have v1 : Var w1 g (shC x) := v1
  refine ld1_i (l := .int .i64) (o := 1) x.b v1 rfl ?_
  refine ld1_i (l := .int .i64) (o := 2) x.d v1 rfl ?_
  have hd := o.dd
  refine quo_i (by rw [o.d]; omega) ?_
  rw [aN_i o]
  exact hK w1 e1
/-- The levels up to one, as they are listed. -/
def csTo (x : S.Shp) (k : Nat) : List Nat := (List.range (k + 1)).map x.c
theorem csTo_h : csTo x x.h = x.cs := rfl
theorem csTo_succ (k : Nat) : csTo x (k + 1) = csTo x k ++ [x.c (k + 1)] := by
  unfold csTo
  rw [List.range_succ (n := k + 1), List.map_append]; rfl
theorem csTo_len (k : Nat) : (csTo x k).length = k + 1 := by simp [csTo]
theorem counts_s {K : Sl → World → Prop} {w : World} (o : x.Ok) (hK : ∀ v w', Ext w w' → Own w' w.heap.size v 1 (x.cs.map vI) → K v w') :
    callS Try.prog 22 #[.agg #[.int .i64 x.s, .int .i64 x.b, .int .i64 x.d]] [.one .slc] K w := by
  refine f22_ok ?_
  unfold f22
  refine box_i fun g w1 e1 hg v1 => ?_
  have v1 : Var w1 g (shC x) := v1
  have hgl := v1.lt
  refine ld1_i (l := .int .i64) (o := 0) x.s v1 rfl ?_
  refine ld1_i (l := .int .i64) (o := 1) x.b v1 rfl ?_
  refine ld1_i (l := .int .i64) (o := 1) x.b v1 rfl ?_
  have hb1 := o.b1
  have hb2 := o.b2
  have hs2 := o.s2
  have ha1 := o.a1
  have ha2 := o.a2
  refine quo_i (by rw [o.b]; omega) ?_
  rw [show IntKind.wrap .i64 (Int.tdiv (IntKind.wrap .i64 (IntKind.wrap .i64 (x.s + x.b) - 1)) x.b) = (x.c 0 : Int) by rw [o.s, o.b]; exact S.up_i (by omega) (by omega) hb2]
  refine buildV_i [vI (x.c 0)] rfl (fun v hv => by rw [List.mem_singleton.1 hv]; exact ⟨rfl, rfl⟩) rfl (by decide) fun v w2 e2 o2 => ?_
  refine loop_i (fun (st : Int × Sl) w' => ∃ k, k ≤ x.h ∧ st.1 = (x.c k : Int) ∧ Ext w1 w' ∧ Own w' w1.heap.size st.2 1 ((csTo x k).map vI)) (fun st _ => st.1.toNat) ⟨0, by omega, rfl, e2, o2⟩ ?_
  rintro ⟨n, s⟩ w3 again ⟨k, hk, hn, e3, o3⟩ hag
  dsimp only at hn o3 ⊢
  subst hn
  have hcm := S.Shp.c_max o k
  refine cond_i (fun hgt => ?_) (fun hle => ?_)
  · have hgt' : 1 < x.c k := by have := of_decide_eq_true hgt; omega
    have hkh : k < x.h := by
      apply Classical.byContradiction
      intro hn
      have := (S.Shp.h_iff o (k := k)).2 (by omega)
      omega
    have v3 := v1.ext e3
    have hd := Ext.drew w3
    refine ⟨fun y => Ext w3 y, hd, ?_⟩
    refine ldShQ_i (x := x) (fun y hy => v3.ext hy) ?_
    refine ldShQ_i (x := x) (fun y hy => v3.ext hy) ?_
    refine arity_s o fun w4 e4 => ?_
    refine more_i (hd.trans e4) ?_
    refine arity_s o fun w5 e5 => ?_
    refine more_i ((hd.trans e4).trans e5) ?_
    refine quoQ_i (by omega) ?_
    rw [S.up_i (n := x.c k) (by omega) (by omega) (by omega)]
    have e35 := (hd.trans e4).trans e5
    refine append1V_i (vI (x.c (k + 1))) rfl rfl (o3.ext e35) (by have := o3.len; simp [csTo_len] at this; have := S.Shp.h_le o; omega) (by have := (e3.trans e35).size; omega) fun v w6 f6 o6 hin => ?_
    refine hag _ w6 ⟨k + 1, by omega, rfl, Ext.own (e3.trans e35) f6 fun i hi => (o3.inB hi).1, ?_⟩ ?_
    · rw [csTo_succ, List.map_append]; exact o6
    · have := S.Shp.c_lt o hgt'
      show ((x.c (k + 1) : Nat) : Int).toNat < ((x.c k : Nat) : Int).toNat
      omega
  · have hle' : x.c k ≤ 1 := by have := of_decide_eq_false hle; omega
    have hkh : k = x.h := by have := (S.Shp.h_iff o).1 hle'; omega
    subst hkh
    exact hK s w3 (e1.trans e3) (Own.base o3 e1.size)
theorem sCounts_s {K : Sl → Int → World → Prop} {w : World} (hBad : x.right = false → ∀ w', Ext w w' → K Sl.nil 24 w') (hOk : x.right = true → ∀ v w', Ext w w' → Own w' w.heap.size v 1 (x.cs.map vI) → K v 0 w') :
    callS Try.prog 10 #[.agg #[.int .i64 x.s, .int .i64 x.b, .int .i64 x.d]] [.one .slc, .one (.int .i64)] K w := by
  refine f10_ok ?_
  unfold f10
  refine box_i fun g w1 e1 hg v1 => ?_
  have v1 : Var w1 g (shC x) := v1
  refine ldSh_i v1 ?_
  refine sRight_s fun w2 e2 => ?_
  have e12 := e1.trans e2
  refine cond_i (fun h => hBad (by simpa using h) w2 e12) (fun h => ?_)
  have hr : x.right = true := by simpa using h
  refine ldSh_i (v1.ext e2) ?_
  refine counts_s (S.Shp.ok_of hr) fun v w3 e3 o3 => ?_
  exact hOk hr v w3 (e12.trans e3) (Own.base o3 e12.size)
/-- A list of numbers added up. -/
theorem sumL_s {w : World} {s : Sl} {l : List Nat} {a0 i0 : Nat} {R : Int × Int → World → Prop} (hx : Rd w s 1 (l.map vI)) (hl : l.length ≤ 64) (hm : ∀ y ∈ l, y ≤ 17179869184) (ha : a0 ≤ 1099511627776) (hi0 : i0 ≤ l.length)
    (hR : R (((a0 + (l.drop i0).sum : Nat) : Int), (l.length : Int)) w) :
    loopS (σ := Int × Int) (fun s11 w again12 =>
      cond (decide (s11.2 < (s.len : Int)))
        (semS Try.prog (Instr.indexAt 27 (.slice s.a s.len s.cap) (.int .i64 s11.2)) (.one .adr) (fun x13 w =>
        semS Try.prog (Instr.loadAt 3 (.pointer (some x13))) (.one (.int .i64)) (fun x14 w =>
        again12 (IntKind.wrap .i64 (s11.1 + x14), IntKind.wrap .i64 (s11.2 + 1)) w) w) w)
        (R s11 w)) ((a0 : Int), (i0 : Int)) w := by
  have hsl : s.len = l.length := by have := hx.len; simp at this; omega
  refine loop_i (fun (st : Int × Int) w' => w' = w ∧ ∃ (i acc : Nat), i ≤ l.length ∧ st = ((acc : Int), (i : Int)) ∧ acc + (l.drop i).sum = a0 + (l.drop i0).sum) (fun st _ => l.length - st.2.toNat) ⟨rfl, i0, a0, hi0, rfl, rfl⟩ ?_
  rintro st w' again ⟨rfl, i, acc, hi, rfl, hacc⟩ hag
  dsimp only
  have hsum : (l.drop i0).sum ≤ 1099511627776 := by
    have h1 := S.Shp.sum_le (l := l.drop i0) (m := 17179869184) fun y hy => hm y (List.mem_of_mem_drop hy)
    have h2 := Nat.mul_le_mul_right 17179869184 (show (l.drop i0).length ≤ 64 by rw [List.length_drop]; omega)
    omega
  refine cond_i (fun hlt => ?_) (fun hge => ?_)
  · have hi' : i < l.length := by have := of_decide_eq_true hlt; omega
    have hd : l.drop i = l[i] :: l.drop (i + 1) := List.drop_eq_getElem_cons hi'
    rw [hd, List.sum_cons] at hacc
    refine elem_i (l := .int .i64) (x := (l[i] : Int)) hx (by omega) (by omega) (by rw [Int.toNat_natCast, List.getElem?_map, List.getElem?_eq_getElem hi']; rfl) ?_
    rw [wrap_i64 (x := (acc : Int) + (l[i] : Int)) (by omega) (by omega), wrap_i64 (x := (i : Int) + 1) (by omega) (by omega)]
    refine hag _ _ ⟨rfl, i + 1, acc + l[i], by omega, ?_, by omega⟩ ?_
    · rw [Int.natCast_add, Int.natCast_add]; rfl
    · show l.length - ((i : Int) + 1).toNat < l.length - ((i : Int)).toNat
      omega
  · have hi' : i = l.length := by have := of_decide_eq_false hge; omega
    subst hi'
    rw [List.drop_length, List.sum_nil, Nat.add_zero] at hacc
    rw [hacc]; exact hR
theorem mulB_i (o : x.Ok) {n : Nat} (hn : n ≤ 2199023255552) : IntKind.wrap .i64 ((n : Int) * x.b) = ((n * x.bN : Nat) : Int) := by
  have h := Nat.mul_le_mul hn o.b2
  rw [o.b, ← Int.natCast_mul]
  exact wrap_nat (by omega)
theorem sTotal_s {K : Int → Int → World → Prop} {w : World} (hBad : x.right = false → ∀ w', Ext w w' → K 0 24 w') (hOk : x.right = true → ∀ w', Ext w w' → K ((x.sumA 0 * x.bN : Nat) : Int) 0 w') :
    callS Try.prog 11 #[.agg #[.int .i64 x.s, .int .i64 x.b, .int .i64 x.d]] [.one (.int .i64), .one (.int .i64)] K w := by
  refine f11_ok ?_
  unfold f11
  refine box_i fun g w1 e1 hg v1 => ?_
  have v1 : Var w1 g (shC x) := v1
  refine ldSh_i v1 ?_
  refine sRight_s fun w2 e2 => ?_
  have e12 := e1.trans e2
  refine cond_i (fun h => hBad (by simpa using h) w2 e12) (fun h => ?_)
  have hr : x.right = true := by simpa using h
  have o := S.Shp.ok_of hr
  refine ldSh_i (v1.ext e2) ?_
  refine counts_s o fun v w3 e3 o3 => ?_
  have hvl : v.len = x.h + 1 := by have := o3.len; simp [S.Shp.cs_len] at this; omega
  have hh := S.Shp.h_le o
  refine slLo_i (by omega) (by omega) ?_
  have hr3 := Rd.cut o3.rd (l := 1) (hi := v.len) (by omega) (Nat.le_refl _)
  rw [Nat.one_mul, Nat.mul_one, ← List.map_drop, ← List.map_take, List.take_of_length_le (by rw [List.length_drop, S.Shp.cs_len]; omega)] at hr3
  refine sumL_s (a0 := 0) (i0 := 0) hr3 (by rw [List.length_drop, S.Shp.cs_len]; omega) (fun y hy => S.Shp.cs_mem o (List.mem_of_mem_drop hy)) (by omega) (by omega) ?_
  refine ld1_i (l := .int .i64) (o := 1) x.b ((v1.ext e2).ext e3) rfl ?_
  rw [List.drop_zero, Nat.zero_add]
  have hs : (x.cs.drop 1).sum = x.sumA 0 := rfl
  rw [hs]
  dsimp only
  rw [mulB_i o (by have := S.Shp.sumA_le o 0; omega)]
  exact hOk hr w3 (e12.trans e3)
theorem rup_s {n a : Nat} {K : Int → World → Prop} {w : World} (hn : n ≤ 1099511627776) (ha : 1 ≤ a) (hK : K (S.up n a : Int) w) : callS Try.prog 24 #[.int .i64 (n : Int), .int .i64 (a : Int)] [.one (.int .i64)] K w := by
  refine f24_ok ?_
  unfold f24
  refine rem_i (by omega) ?_
  have hq : n / a ≤ n := Nat.div_le_self _ _
  rw [S.tmod_n]
  refine cond_i (fun h => ?_) (fun h => ?_)
  · have h0 : n % a = 0 := by have h1 : ((n % a : Nat) : Int) = 0 := by simpa using h
                              omega
    refine quo_i (by omega) ?_
    rw [S.tdiv_n, wrap_nat (by omega)]
    rw [S.up_def ha, if_pos h0] at hK; exact hK
  · have h0 : n % a ≠ 0 := by
      intro h1
      rw [h1] at h
      simp at h
    refine quo_i (by omega) ?_
    rw [S.tdiv_n, wrap_nat (by omega), show ((n / a : Nat) : Int) + 1 = ((n / a + 1 : Nat) : Int) by omega, wrap_nat (by omega)]
    rw [S.up_def ha, if_neg h0] at hK; exact hK
theorem rCounts_s {K : Sl → World → Prop} {w : World} (o : x.Ok) (hK : ∀ v w', Ext w w' → Own w' w.heap.size v 1 (x.cs.map vI) → K v w') :
    callS Try.prog 14 #[.agg #[.int .i64 x.s, .int .i64 x.b, .int .i64 x.d]] [.one .slc] K w := by
  refine f14_ok ?_
  unfold f14
  refine box_i fun g w1 e1 hg v1 => ?_
  have v1 : Var w1 g (shC x) := v1
  have hgl := v1.lt
  refine ld1_i (l := .int .i64) (o := 0) x.s v1 rfl ?_
  refine ld1_i (l := .int .i64) (o := 1) x.b v1 rfl ?_
  have hb1 := o.b1
  have hb2 := o.b2
  have hs2 := o.s2
  have ha1 := o.a1
  have ha2 := o.a2
  have hup := rup_s (w := w1) (n := x.sN) (a := x.bN) hs2 (by omega) (K := ?_) ?_
  rw [← o.s, ← o.b] at hup
  exact hup
  refine buildV_i [vI (x.c 0)] rfl (fun v hv => by rw [List.mem_singleton.1 hv]; exact ⟨rfl, rfl⟩) rfl (by decide) fun v w2 e2 o2 => ?_
  refine loop_i (fun (st : Int × Sl) w' => ∃ k, k ≤ x.h ∧ st.1 = (x.c k : Int) ∧ Ext w1 w' ∧ Own w' w1.heap.size st.2 1 ((csTo x k).map vI)) (fun st _ => st.1.toNat) ⟨0, by omega, rfl, e2, o2⟩ ?_
  rintro ⟨n, s⟩ w3 again ⟨k, hk, hn, e3, o3⟩ hag
  dsimp only at hn o3 ⊢
  subst hn
  have hcm := S.Shp.c_max o k
  refine cond_i (fun hgt => ?_) (fun hle => ?_)
  · have hgt' : 1 < x.c k := by have := of_decide_eq_true hgt; omega
    have hkh : k < x.h := by
      apply Classical.byContradiction
      intro hn
      have := (S.Shp.h_iff o (k := k)).2 (by omega)
      omega
    have v3 := v1.ext e3
    refine ld1_i (l := .int .i64) (o := 1) x.b v3 rfl ?_
    refine ld1_i (l := .int .i64) (o := 2) x.d v3 rfl ?_
    have hd := o.dd
    refine quo_i (by rw [o.d]; omega) ?_
    rw [aN_i o]
    refine rup_s (n := x.c k) (a := x.aN) (by omega) (by omega) ?_
    refine append1V_i (vI (x.c (k + 1))) rfl rfl o3 (by have := o3.len; simp [csTo_len] at this; have := S.Shp.h_le o; omega) (by have := e3.size; omega) fun v w6 f6 o6 hin => ?_
    refine hag _ w6 ⟨k + 1, by omega, rfl, Ext.own e3 f6 fun i hi => (o3.inB hi).1, ?_⟩ ?_
    · rw [csTo_succ, List.map_append]; exact o6
    · have := S.Shp.c_lt o hgt'
      show ((x.c (k + 1) : Nat) : Int).toNat < ((x.c k : Nat) : Int).toNat
      omega
  · have hle' : x.c k ≤ 1 := by have := of_decide_eq_false hle; omega
    have hkh : k = x.h := by have := (S.Shp.h_iff o).1 hle'; omega
    subst hkh
    exact hK s w3 (e1.trans e3) (Own.base o3 e1.size)
theorem rTotal_s {K : Int → World → Prop} {w : World} (o : x.Ok) (hK : ∀ w', Ext w w' → K ((x.sumA 0 * x.bN : Nat) : Int) w') :
    callS Try.prog 15 #[.agg #[.int .i64 x.s, .int .i64 x.b, .int .i64 x.d]] [.one (.int .i64)] K w := by
  refine f15_ok ?_
  unfold f15
  refine box_i fun g w1 e1 hg v1 => ?_
  have v1 : Var w1 g (shC x) := v1
  refine ldSh_i v1 ?_
  refine rCounts_s o fun v w3 e3 o3 => ?_
  have hh := S.Shp.h_le o
  refine sumL_s (a0 := 0) (i0 := 1) o3.rd (by rw [S.Shp.cs_len]; omega) (fun y hy => S.Shp.cs_mem o hy) (by omega) (by rw [S.Shp.cs_len]; omega) ?_
  refine ld1_i (l := .int .i64) (o := 1) x.b (v1.ext e3) rfl ?_
  have hs : (x.cs.drop 1).sum = x.sumA 0 := rfl
  rw [Nat.zero_add, hs]
  dsimp only
  rw [mulB_i o (by have := S.Shp.sumA_le o 0; omega)]
  exact hK w3 (e1.trans e3)
end
end Go.Proofs.Ytanjnmoonndfhaa
