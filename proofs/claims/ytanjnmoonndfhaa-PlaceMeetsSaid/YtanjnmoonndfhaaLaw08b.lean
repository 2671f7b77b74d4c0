/- Layer 8 (place): the laws PlaceFills, PlacePaths and PlaceMeets. -/
import Derived.Test.YtanjnmoonndfhaaLaw08a
set_option linter.unusedSimpArgs false
set_option linter.unusedVariables false
namespace Go.Proofs.Ytanjnmoonndfhaa
open Go Go.Eng
theorem isW_c {n : Nat} (h : n ≤ 17179869184) : n < 2 ^ 53 := Nat.lt_of_le_of_lt h (Nat.lt_of_lt_of_le (m := 17179869185) (by omega) (Nat.le_of_ble_eq_true rfl))
/-- The blocks of one level, one behind the other. -/
theorem level_s {x : S.Shp} {w : World} {g l : Nat} {K : Bool → World → Prop} {R : Int × Int → World → Prop} (hr : x.right = true) (v : Var w g (shC x)) (h1 : 1 ≤ l) (h2 : l ≤ x.h)
    (hR : ∀ w' i, Ext w w' → R ((((x.c l + x.sumA l) * x.bN : Nat) : Int), i) w') :
    loopS (σ := Int × Int) (fun s18 w again19 =>
              cond (decide (s18.2 < (x.c l : Int)))
                (semS Try.prog (Instr.loadAt 23 (.pointer (some (at_ g 0)))) (.agg [(.int .i64), (.int .i64), (.int .i64)]) (fun x20 x21 x22 w =>
                callS Try.prog 16 #[(.agg #[(.int .i64 x20), (.int .i64 x21), (.int .i64 x22)]), (.complex .f64 (FloatKind.nearest .f64 s18.2) (FloatKind.nearest .f64 (l : Int)))] [(.one (.int .i64)), (.one (.int .i64))] (fun r23 r24 w =>
                cond ((r24 != 0) || (r23 != s18.1))
                  (K false w)
                  (semS Try.prog (Instr.loadAt 3 (.pointer (some (at_ g 1)))) (.one (.int .i64)) (fun x25 w =>
                  again19 (IntKind.wrap .i64 (s18.1 + x25), IntKind.wrap .i64 (s18.2 + 1)) w) w)) w) w)
                (R s18 w)) (((x.sumA l * x.bN : Nat) : Int), 0) w := by
  have o := S.Shp.ok_of hr
  have hcm := S.Shp.c_max o l
  have hh := S.Shp.h_le o
  have hsm := S.Shp.sumA_le o l
  have hb2 := o.b2
  refine loop_i (fun (st : Int × Int) w' => Ext w w' ∧ ∃ i : Nat, i ≤ x.c l ∧ st = ((((i + x.sumA l) * x.bN : Nat) : Int), (i : Int))) (fun st _ => x.c l - st.2.toNat) ⟨Fr.refl _ _, 0, by omega, by rw [Nat.zero_add]; rfl⟩ ?_
  rintro st w1 again ⟨e1, i, hi, rfl⟩ hag
  dsimp only
  refine cond_i (fun hlt => ?_) (fun hge => ?_)
  · have hi' : i < x.c l := by have h3 : (i : Int) < (x.c l : Int) := of_decide_eq_true hlt
                               omega
    have v1 := v.ext e1
    refine ldSh_i v1 ?_
    refine sOffset_w (i := i) (l := l) rfl rfl hr (isW_c (by omega)) (isW_c (by omega)) h1 h2 hi' fun w2 e2 => ?_
    refine cond_i (fun h => by simp at h) (fun _ => ?_)
    refine ld1_i (l := .int .i64) (o := 1) x.b (v1.ext e2) rfl ?_
    have hm := Nat.mul_le_mul (show i + x.sumA l + 1 ≤ 2199023255552 by omega) hb2
    rw [o.b, show (((i + x.sumA l) * x.bN : Nat) : Int) + (x.bN : Int) = (((i + 1 + x.sumA l) * x.bN : Nat) : Int) by rw [show i + 1 + x.sumA l = (i + x.sumA l) + 1 by omega, Nat.succ_mul]; omega]
    rw [show i + x.sumA l + 1 = i + 1 + x.sumA l by omega] at hm
    rw [wrap_nat (by omega), wrap_i64 (x := (i : Int) + 1) (by omega) (by omega)]
    refine hag _ w2 ⟨e1.trans e2, i + 1, by omega, ?_⟩ ?_
    · rw [show (i : Int) + 1 = ((i + 1 : Nat) : Int) by omega]
    · show x.c l - ((i : Int) + 1).toNat < x.c l - ((i : Int)).toNat
      omega
  · have hi' : i = x.c l := by have h3 : ¬ (i : Int) < (x.c l : Int) := of_decide_eq_false hge
                               omega
    subst hi'
    exact hR w1 _ e1
theorem PlaceFills_s {x : S.Shp} {K : Bool → World → Prop} {w : World} (hx : okS x) (hK : ∀ w', Ext w w' → K true w') :
    callS Try.prog 5 #[.agg (shC x).toArray] [.one .bool] K w := by
  refine f5_ok ?_
  unfold f5
  refine box_i fun g w1 e1 hg v1 => ?_
  have v1 : Var w1 g (shC x) := v1
  refine anchor08_s fun w2 e2 => ?_
  refine cond_i (fun h => by cases h) (fun _ => ?_)
  have v2 := v1.ext e2
  have E2 := e1.trans e2
  refine ld1_i (l := .int .i64) (o := 0) x.s v2 rfl ?_
  refine cond_i (fun _ => hK w2 E2) (fun _ => ?_)
  refine ldSh_i v2 ?_
  cases hr : x.right with
  | false =>
    refine sCounts_s (fun _ w3 e3 => ?_) (fun h => by rw [hr] at h; cases h)
    refine ldSh_i (v2.ext e3) ?_
    refine sTotal_s (fun _ w4 e4 => ?_) (fun h => by rw [hr] at h; cases h)
    refine cond_i (fun _ => hK w4 ((E2.trans e3).trans e4)) (fun h => by simp at h)
  | true =>
    have o := S.Shp.ok_of hr
    have hh := S.Shp.h_le o
    refine sCounts_s (fun h => by rw [hr] at h; cases h) (fun _ c w3 e3 o3 => ?_)
    refine ldSh_i (v2.ext e3) ?_
    refine sTotal_s (fun h => by rw [hr] at h; cases h) (fun _ w4 e4 => ?_)
    refine cond_i (fun h => by simp at h) (fun _ => ?_)
    have v4 := (v2.ext e3).ext e4
    have o4 := o3.ext e4
    have E4 := (E2.trans e3).trans e4
    have hcl : c.len = x.h + 1 := by have := o3.len; simp [S.Shp.cs_len] at this; omega
    have h0 : IntKind.wrap .i64 ((c.len : Int) - 1) = (x.h : Int) := by rw [hcl, wrap_i64 (by omega) (by omega)]; omega
    rw [h0]
    refine loop_i (fun (st : Int × Int) w' => Ext w4 w' ∧ ∃ l : Nat, l ≤ x.h ∧ st = (((x.sumA l * x.bN : Nat) : Int), (l : Int))) (fun st _ => st.2.toNat) ⟨Fr.refl _ _, x.h, Nat.le_refl _, by rw [S.Shp.sumA_top, Nat.zero_mul]; rfl⟩ ?_
    rintro st w5 again ⟨e5, l, hl, rfl⟩ hag
    dsimp only
    refine cond_i (fun hlt => ?_) (fun hge => ?_)
    · have hl1 : 1 ≤ l := by have h3 : (l : Int) ≥ 1 := of_decide_eq_true hlt
                             omega
      refine elem_i (l := .int .i64) (x := (x.c l : Int)) (o4.ext e5).rd (by omega) (by omega) (by rw [Int.toNat_natCast, List.getElem?_map, S.Shp.cs_get hl]; rfl) ?_
      refine level_s hr (v4.ext e5) hl1 hl fun w6 i e6 => ?_
      dsimp only
      have hs := S.Shp.sumA_step (x := x) (l := l - 1) (by omega)
      rw [show l - 1 + 1 = l by omega] at hs
      rw [wrap_i64 (x := (l : Int) - 1) (by omega) (by omega)]
      refine hag _ w6 ⟨e5.trans e6, l - 1, by omega, ?_⟩ ?_
      · rw [hs, show ((l : Int) - 1) = ((l - 1 : Nat) : Int) by omega]
      · show ((l : Int) - 1).toNat < ((l : Int)).toNat
        omega
    · have hl0 : l = 0 := by have h3 : ¬ (l : Int) ≥ 1 := of_decide_eq_false hge
                             omega
      subst hl0
      have := hK w5 (E4.trans e5)
      rw [show (((0 : Int) == 0) && ((((x.sumA 0 * x.bN : Nat) : Int)) == ((x.sumA 0 * x.bN : Nat) : Int))) = true by simp]
      exact this
theorem ldP_i {P : Program} {t g : Nat} {w : World} [AggTy P t 2] {i l : Nat} {K : Int → Int → World → Prop} (hv : Var w g (plC i l)) (hK : K (i : Int) (l : Int) w) :
    semS P (Instr.loadAt t (.pointer (some (at_ g 0)))) (.agg [(.int .i64), (.int .i64)]) K w :=
  ldV_i (n := 2) (ls := [.int .i64, .int .i64]) 0 hv (Nat.le_refl 2) hK
theorem stP_i {P : Program} {t g : Nat} {w : World} [AggTy P t 2] {cs : List Value} {i l : Nat} {K : World → Prop} (hv : Var w g cs) (hl : cs.length = 2) (hK : ∀ w', Fr (fun k => k = g) w w' → Var w' g (plC i l) → K w') :
    semU P (Instr.storeAt t (.pointer (some (at_ g 0))) (.agg #[.int .i64 (i : Int), .int .i64 (l : Int)])) K w :=
  stV_i (n := 2) (vs := plC i l) 0 hv rfl (by omega) (fun v hv => by simp only [plC, List.mem_cons, List.not_mem_nil, or_false] at hv; rcases hv with rfl | rfl <;> rfl) fun w' h1 h2 => hK w' h1 (by simpa [List.drop_of_length_le (Nat.le_of_eq hl)] using h2)
theorem PlacePaths_s {x : S.Shp} {i : Int} {K : Bool → World → Prop} {w : World} (hx : okS x) (hi : i64b i) (hK : ∀ w', Ext w w' → K true w') :
    callS Try.prog 6 #[.agg (shC x).toArray, .int .i64 i] [.one .bool] K w := by
  refine f6_ok ?_
  unfold f6
  refine box_i fun g w1 e1 hg v1 => ?_
  have v1 : Var w1 g (shC x) := v1
  refine anchor08_s fun w2 e2 => ?_
  refine cond_i (fun h => by cases h) (fun _ => ?_)
  have v2 := v1.ext e2
  refine ldSh_i v2 ?_
  refine lawX_i fun g3 w3 e3 hg3 v3 => ?_
  have v2 := v2.ext e3
  have E3 := (e1.trans e2).trans e3
  refine ldSh_i v2 ?_
  refine sPath_s hi (fun hr w4 e4 => ?_) (fun hr hno w4 e4 => ?_) (fun hr n hn hnc v w4 e4 r4 hvl => ?_)
  · refine ldSh_i (v3.ext e4) ?_
    refine rRight_s fun w5 e5 => ?_
    rw [hr]
    exact cond_i (fun _ => hK w5 ((E3.trans e4).trans e5)) (fun h => by cases h)
  · have o := S.Shp.ok_of hr
    refine ldSh_i (v3.ext e4) ?_
    refine rRight_s fun w5 e5 => ?_
    rw [hr]
    refine cond_i (fun h => by cases h) (fun _ => ?_)
    refine ldSh_i ((v3.ext e4).ext e5) ?_
    refine rCounts_s o fun c w6 e6 o6 => ?_
    have hcl : c.len = x.h + 1 := by have := o6.len; simp [S.Shp.cs_len] at this; omega
    have E6 := ((E3.trans e4).trans e5).trans e6
    refine join_i (fun b w' => b = true ∧ w6 = w') ?_ fun J hJ => ?_
    · rintro b w' ⟨rfl, rfl⟩
      exact cond_i (fun _ => hK w6 E6) (fun h => by cases h)
    · refine cond_i (fun _ => hJ _ _ ⟨rfl, rfl⟩) (fun h => ?_)
      have h0 : ¬ i < 0 := of_decide_eq_false h
      refine elem_i (l := .int .i64) (x := (x.c 0 : Int)) o6.rd (by omega) (by omega) (by rw [show (0 : Int).toNat = 0 from rfl, List.getElem?_map, S.Shp.cs_get (Nat.zero_le _)]; rfl) ?_
      exact hJ _ _ ⟨decide_eq_true (show i ≥ (x.c 0 : Int) by omega), rfl⟩
  · subst hn
    have o := S.Shp.ok_of hr
    have hh := S.Shp.h_le o
    have hc0 := S.Shp.c_max o 0
    refine ldSh_i (v3.ext e4) ?_
    refine rRight_s fun w5 e5 => ?_
    rw [hr]
    refine cond_i (fun h => by cases h) (fun _ => ?_)
    refine ldSh_i ((v3.ext e4).ext e5) ?_
    refine rCounts_s o fun c w6 e6 o6 => ?_
    have hcl : c.len = x.h + 1 := by have := o6.len; simp [S.Shp.cs_len] at this; omega
    have E6 := ((E3.trans e4).trans e5).trans e6
    refine join_i (fun b w' => b = false ∧ w6 = w') ?_ fun J hJ => ?_
    rotate_left
    · refine cond_i (fun h => ?_) (fun h => ?_)
      · have h0 : ((n : Nat) : Int) < 0 := of_decide_eq_true h
        omega
      refine elem_i (l := .int .i64) (x := (x.c 0 : Int)) o6.rd (by omega) (by omega) (by rw [show (0 : Int).toNat = 0 from rfl, List.getElem?_map, S.Shp.cs_get (Nat.zero_le _)]; rfl) ?_
      exact hJ _ _ ⟨decide_eq_false (show ¬ (n : Int) ≥ (x.c 0 : Int) by omega), rfl⟩
    rintro b w' ⟨rfl, rfl⟩
    refine cond_i (fun h => by cases h) (fun _ => ?_)
    refine cond_i (fun h => by rw [hcl, hvl] at h; simp at h) (fun _ => ?_)
    refine alloc_i fun g7 w7 e7 hg7 v7 => ?_
    refine stP_i (i := n) (l := 0) v7 rfl fun w8 f8 v8 => ?_
    have E8 : Ext w6 w8 := Fr.own1 e7 f8 hg7
    have r8 := ((r4.ext e5).ext e6).ext E8
    have o8 := o6.ext E8
    have v3' := (((v3.ext e4).ext e5).ext e6)
    refine loop_i (fun (y : Int) w' => Ext w6 w' ∧ ∃ k j : Nat, k ≤ x.h + 1 ∧ y = k ∧ j = min k x.h ∧ Var w' g7 (plC (n / x.aN ^ j) j)) (fun y _ => x.h + 1 - y.toNat) ⟨E8, 0, 0, by omega, rfl, by omega, by rw [Nat.pow_zero, Nat.div_one]; exact v8⟩ ?_
    rintro y w9 again ⟨E9, k, j, hk, rfl, hj, v9⟩ hag
    have hjin := path_in o hnc j
    have hcj := S.Shp.c_max o j
    refine cond_i (fun hlt => ?_) (fun hge => ?_)
    · have hk' : k ≤ x.h := by have h3 : (k : Int) < (v.len : Int) := of_decide_eq_true hlt
                               omega
      have hjk : j = k := by omega
      subst hjk
      have r9 : Rd w9 v 1 (pathTo x n x.h) := ((r4.ext e5).ext e6).ext E9
      refine elem_i (l := .cpx) (x := cz (n / x.aN ^ j) j) r9 (by omega) (by omega) (by rw [Int.toNat_natCast, pathTo_get hk']; rfl) ?_
      refine ldP_i v9 ?_
      refine rNumber_s fun w10 e10 => ?_
      refine join_i (fun b w' => b = false ∧ Ext w10 w') ?_ fun J hJ => ?_
      rotate_left
      · refine cond_i (fun h => ?_) (fun _ => ?_)
        · rw [fcEq_W (isW_fw (isW_c (by omega))) (isW_fw (isW_c (by omega))), fcEq_W (isW_fw (isW_c (by omega))) (isW_fw (isW_c (by omega)))] at h
          simp at h
        · refine ldSh_i ((v3'.ext E9).ext e10) ?_
          refine ldP_i (v9.ext e10) ?_
          refine rIn_s o fun w11 e11 => ?_
          exact hJ _ _ ⟨by rw [decide_eq_true ⟨hk', hjin⟩]; rfl, e11⟩
      rintro b w11 ⟨rfl, e11⟩
      have e10' := e10.trans e11
      refine cond_i (fun h => by cases h) (fun _ => ?_)
      rw [wrap_i64 (x := (j : Int) + 1) (by omega) (by omega)]
      refine cond_i (fun hl2 => ?_) (fun hl2 => ?_)
      · have hj1 : j < x.h := by have h3 : (j : Int) + 1 < (v.len : Int) := of_decide_eq_true hl2
                                 omega
        refine ldSh_i ((v3'.ext E9).ext e10') ?_
        refine ldP_i (v9.ext e10') ?_
        refine rAbove_s o (by omega) (by omega) fun w12 e12 => ?_
        refine stP_i (v9.ext (e10'.trans e12)) rfl fun w13 f13 v13 => ?_
        refine hag _ w13 ⟨Fr.own1 ((E9.trans e10').trans e12) f13 (by omega), j + 1, j + 1, by omega, by omega, by omega, by rw [div_pow_succ]; exact v13⟩ ?_
        omega
      · have hj1 : j = x.h := by have h3 : ¬ (j : Int) + 1 < (v.len : Int) := of_decide_eq_false hl2
                                 omega
        refine hag _ w11 ⟨E9.trans e10', j + 1, j, by omega, by omega, by omega, v9.ext e10'⟩ ?_
        omega
    · have hjk : j = x.h := by have h3 : ¬ (k : Int) < (v.len : Int) := of_decide_eq_false hge
                               omega
      subst hjk
      refine ld1_i (l := .int .i64) (o := 1) ((x.h : Nat) : Int) v9 rfl ?_
      refine elem_i (l := .int .i64) (x := (x.c x.h : Int)) (o6.ext E9).rd (by omega) (by omega) (by rw [Int.toNat_natCast, List.getElem?_map, S.Shp.cs_get (Nat.le_refl _)]; rfl) ?_
      rw [S.Shp.h_top o]
      exact hK w9 (E6.trans E9)
/-- Two paths that met stay together. -/
theorem met_on {i k a j : Nat} (h : i / a ^ j = k / a ^ j) : i / a ^ (j + 1) = k / a ^ (j + 1) := by rw [div_pow_succ, div_pow_succ, h]
theorem PlaceMeets_s {x : S.Shp} {i k : Int} {K : Bool → World → Prop} {w : World} (hx : okS x) (hi : i64b i) (hk : i64b k) (hK : ∀ w', Ext w w' → K true w') :
    callS Try.prog 7 #[.agg (shC x).toArray, .int .i64 i, .int .i64 k] [.one .bool] K w := by
  refine f7_ok ?_
  unfold f7
  refine box_i fun g w1 e1 hg v1 => ?_
  have v1 : Var w1 g (shC x) := v1
  refine anchor08_s fun w2 e2 => ?_
  refine cond_i (fun h => by cases h) (fun _ => ?_)
  have v2 := v1.ext e2
  have E2 := e1.trans e2
  refine ldSh_i v2 ?_
  have tr : ∀ (c : Sl) (n : Int) (w3 : World), n ≠ 0 → Ext w2 w3 → ∀ (r : Int), K true w3 := fun c n w3 _ e3 _ => hK w3 (E2.trans e3)
  refine sPath_s hi (fun hr w3 e3 => ?_) (fun hr hno w3 e3 => ?_) (fun hr n hn hnc a w3 e3 r3 hal => ?_)
  · refine ldSh_i (v2.ext e3) ?_
    refine sPath_s hk (fun _ w4 e4 => ?_) (fun _ _ w4 e4 => ?_) (fun _ _ _ _ _ w4 e4 _ _ => ?_)
    all_goals exact cond_i (fun _ => hK w4 ((E2.trans e3).trans e4)) (fun h => by simp at h)
  · refine ldSh_i (v2.ext e3) ?_
    refine sPath_s hk (fun _ w4 e4 => ?_) (fun _ _ w4 e4 => ?_) (fun _ _ _ _ _ w4 e4 _ _ => ?_)
    all_goals exact cond_i (fun _ => hK w4 ((E2.trans e3).trans e4)) (fun h => by simp at h)
  subst hn
  have v3 := v2.ext e3
  refine ldSh_i v3 ?_
  refine sPath_s hk (fun hr2 _ _ => by rw [hr] at hr2; cases hr2) (fun _ _ w4 e4 => ?_) (fun _ m hm hmc b w4 e4 r4 hbl => ?_)
  · exact cond_i (fun _ => hK w4 ((E2.trans e3).trans e4)) (fun h => by simp at h)
  subst hm
  refine cond_i (fun h => by simp at h) (fun _ => ?_)
  have o := S.Shp.ok_of hr
  have hh := S.Shp.h_le o
  have hc0 := S.Shp.c_max o 0
  have ra := r3.ext e4
  have E4 := (E2.trans e3).trans e4
  have v4 := v3.ext e4
  have fit : ∀ (q j : Nat), q < x.c 0 → q / x.aN ^ j < 2 ^ 53 := fun q j h => isW_c (by
    have h1 := path_in o h j
    have h2 := S.Shp.c_max o j
    omega)
  have heq : ∀ j, j ≤ x.h → (fcEq (fw (n / x.aN ^ j)) (fw (m / x.aN ^ j)) && fcEq (fw j) (fw j)) = decide (n / x.aN ^ j = m / x.aN ^ j) := fun j hj => by
    rw [fcEq_W (isW_fw (fit n j hnc)) (isW_fw (fit m j hmc)), fcEq_W (isW_fw (isW_c (by omega))) (isW_fw (isW_c (by omega))), decide_eq_true (rfl : j = j), Bool.and_true]
  obtain ⟨aa, haa⟩ := ra.some (by omega)
  obtain ⟨ab, hab⟩ := r4.some (by omega)
  refine loop_i (fun (st : Bool × Int) w' => Ext w4 w' ∧ ∃ j : Nat, j ≤ x.h + 1 ∧ st = ((decide (1 ≤ j) && decide (n / x.aN ^ (j - 1) = m / x.aN ^ (j - 1))), (j : Int))) (fun st _ => x.h + 1 - st.2.toNat) ⟨Fr.refl _ _, 0, by omega, rfl⟩ ?_
  rintro st w5 again ⟨e5, j, hj, rfl⟩ hag
  dsimp only
  refine cond_i (fun hlt => ?_) (fun hge => ?_)
  · have hj' : j ≤ x.h := by have h3 : (j : Int) < (a.len : Int) := of_decide_eq_true hlt
                             omega
    have hga : (pathTo x n x.h)[((j : Int)).toNat]? = some (Lf.enc .cpx (cz (n / x.aN ^ j) j)) := by rw [Int.toNat_natCast, pathTo_get hj']; rfl
    have hgb : (pathTo x m x.h)[((j : Int)).toNat]? = some (Lf.enc .cpx (cz (m / x.aN ^ j) j)) := by rw [Int.toNat_natCast, pathTo_get hj']; rfl
    have hd := Ext.drew w5
    have next : ∀ (c : Bool) w', Ext w5 w' → c = decide (n / x.aN ^ j = m / x.aN ^ j) → again (c, IntKind.wrap .i64 ((j : Int) + 1)) w' := fun c w' e hc => by
      subst hc
      refine hag _ w' ⟨e5.trans e, j + 1, by omega, ?_⟩ ?_
      · rw [wrap_i64 (x := (j : Int) + 1) (by omega) (by omega), decide_eq_true (show 1 ≤ j + 1 by omega), Bool.true_and, Nat.add_sub_cancel, show (j : Int) + 1 = ((j + 1 : Nat) : Int) by omega]
      · show x.h + 1 - (IntKind.wrap .i64 ((j : Int) + 1)).toNat < x.h + 1 - ((j : Int)).toNat
        rw [wrap_i64 (x := (j : Int) + 1) (by omega) (by omega)]; omega
    have t1 : ∀ w', Ext w5 w' → (∀ h : (decide (1 ≤ j) && decide (n / x.aN ^ (j - 1) = m / x.aN ^ (j - 1))) = true, n / x.aN ^ j = m / x.aN ^ j) →
        f7_t1 false K ((decide (1 ≤ j) && decide (n / x.aN ^ (j - 1) = m / x.aN ^ (j - 1))), (j : Int)) again a b w' := fun w' e hmet => by
      unfold f7_t1
      refine cond_i (fun h => by cases h) (fun _ => ?_)
      have hd2 := Ext.drew w'
      refine ⟨fun y => Ext w' y, hd2, ?_⟩
      dsimp only
      refine cond_i (fun h => ?_) (fun h => ?_)
      · exact next _ _ (e.trans hd2) (by rw [hmet h]; simp)
      · refine elemQ_i (l := .cpx) (x := cz (n / x.aN ^ j) j) haa (fun y hy => ((ra.ext e5).ext e).ext hy) (by omega) (by omega) hga ?_
        refine elemQ_i (l := .cpx) (x := cz (m / x.aN ^ j) j) hab (fun y hy => ((r4.ext e5).ext e).ext hy) (by omega) (by omega) hgb ?_
        exact next _ _ (e.trans hd2) (heq j hj')
    refine ⟨fun y => Ext w5 y, hd, ?_⟩
    refine cond_i (fun h => ?_) (fun h => ?_)
    · have hm2 := h
      rw [Bool.and_eq_true] at hm2
      have hj1 := of_decide_eq_true hm2.1
      have hmet : n / x.aN ^ j = m / x.aN ^ j := by
        have := met_on (of_decide_eq_true hm2.2)
        rwa [show j - 1 + 1 = j by omega] at this
      refine elemQ_i (l := .cpx) (x := cz (n / x.aN ^ j) j) haa (fun y hy => (ra.ext e5).ext hy) (by omega) (by omega) hga ?_
      refine elemQ_i (l := .cpx) (x := cz (m / x.aN ^ j) j) hab (fun y hy => (r4.ext e5).ext hy) (by omega) (by omega) hgb ?_
      rw [show (!(fcEq (cz (n / x.aN ^ j) j).re (cz (m / x.aN ^ j) j).re && fcEq (cz (n / x.aN ^ j) j).im (cz (m / x.aN ^ j) j).im)) = false by rw [heq j hj', hmet]; simp]
      exact t1 _ hd fun _ => hmet
    · exact t1 _ hd fun h2 => by rw [h] at h2; cases h2
  · have hj' : j = x.h + 1 := by have h3 : ¬ (j : Int) < (a.len : Int) := of_decide_eq_false hge
                                 omega
    subst hj'
    have v5 := v4.ext e5
    refine ld1_i (l := .int .i64) (o := 1) x.b v5 rfl ?_
    refine ld1_i (l := .int .i64) (o := 2) x.d v5 rfl ?_
    have hdd := o.dd
    have ha1 := o.a1
    refine quo_i (by rw [o.d]; omega) ?_
    rw [aN_i o]
    have hd := Ext.drew w5
    refine ⟨fun y => Ext w5 y, hd, ?_⟩
    have htop : n / x.aN ^ x.h = m / x.aN ^ x.h := by
      have h1 := path_in o hnc x.h
      have h2 := path_in o hmc x.h
      rw [S.Shp.h_top o] at h1 h2
      rw [Nat.lt_one_iff.1 h1, Nat.lt_one_iff.1 h2]
    refine cond_i (fun _ => ?_) (fun h => ?_)
    rotate_left
    · rw [Nat.add_sub_cancel, htop] at h
      simp at h
    refine cond_i (fun _ => ?_) (fun h => by rw [hal, hbl] at h; simp at h)
    have E5 := (E4.trans e5).trans hd
    refine cond_i (fun _ => hK _ E5) (fun h => ?_)
    have hh1 : 1 ≤ x.h := by
      apply Classical.byContradiction
      intro h2
      rw [hal, show x.h = 0 by omega] at h
      simp at h
    refine elemQ_i (l := .cpx) (x := cz (n / x.aN ^ 1) 1) haa (fun y hy => (ra.ext e5).ext hy) (by omega) (by omega) (by rw [show (1 : Int).toNat = 1 from rfl, pathTo_get hh1]; rfl) ?_
    refine elemQ_i (l := .cpx) (x := cz (m / x.aN ^ 1) 1) hab (fun y hy => (r4.ext e5).ext hy) (by omega) (by omega) (by rw [show (1 : Int).toNat = 1 from rfl, pathTo_get hh1]; rfl) ?_
    have hqn : n / x.aN ≤ n := Nat.div_le_self _ _
    have hqm : m / x.aN ≤ m := Nat.div_le_self _ _
    refine quoQ_i (by omega) ?_
    refine quoQ_i (by omega) ?_
    rw [S.tdiv_n, S.tdiv_n, wrap_nat (by omega), wrap_nat (by omega)]
    have := hK _ E5
    have e : ((fcEq (cz (n / x.aN ^ 1) 1).re (cz (m / x.aN ^ 1) 1).re && fcEq (cz (n / x.aN ^ 1) 1).im (cz (m / x.aN ^ 1) 1).im) == (((n / x.aN : Nat) : Int) == ((m / x.aN : Nat) : Int))) = true := by
      rw [heq 1 hh1, Nat.pow_one, beq_iff_eq, Bool.eq_iff_iff, beq_iff_eq, decide_eq_true_eq]
      omega
    rw [← e] at this
    exact this
end Go.Proofs.Ytanjnmoonndfhaa
