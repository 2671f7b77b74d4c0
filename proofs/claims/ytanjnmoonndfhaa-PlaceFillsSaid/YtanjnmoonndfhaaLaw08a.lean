/- Layer 8 (place): the laws PlaceCounts and PlaceGrows. -/
import Derived.Test.YtanjnmoonndfhaaPlc08d
import Derived.Test.YtanjnmoonndfhaaRowLib2
import Derived.Test.YtanjnmoonndfhaaRowLib
set_option linter.unusedSimpArgs false
set_option linter.unusedVariables false
namespace Go.Proofs.Ytanjnmoonndfhaa
open Go Go.Eng
abbrev lS : List Lf := [.int .i64, .int .i64, .int .i64]
def i64b (n : Int) : Prop := -9223372036854775808 ≤ n ∧ n ≤ 9223372036854775807
def okS (x : S.Shp) : Prop := i64b x.s ∧ i64b x.b ∧ i64b x.d
theorem open_Shape {cs : List Value} (h : KindsW lS cs) : ∃ y : S.Shp, cs = shC y ∧ okS y := by
  rcases cs with _ | ⟨c0, _ | ⟨c1, _ | ⟨c2, _ | ⟨c3, cs⟩⟩⟩⟩
  · exact h.elim
  · exact h.2.elim
  · exact h.2.2.elim
  · obtain ⟨⟨x, rfl, hx⟩, ⟨y, rfl, hy⟩, ⟨z, rfl, hz⟩, _⟩ := h
    exact ⟨⟨x, y, z⟩, rfl, wf_i64 hx, wf_i64 hy, wf_i64 hz⟩
  · exact h.2.2.2.elim
theorem sAbove_w {x : S.Shp} {re im i l : Nat} {K : Cx → Int → Int → World → Prop} {w : World} (h1 : re = fw i) (h2 : im = fw l) (o : x.right = true) (hi : i < 2 ^ 52) (hl : l < 2 ^ 52) (hlt : l < x.h) (hic : i < x.c l)
    (hOk : ∀ w', Ext w w' → K (cz (i / x.aN) (l + 1)) ((i % x.aN * x.dN : Nat) : Int) 0 w') :
    callS Try.prog 21 #[.agg #[.int .i64 x.s, .int .i64 x.b, .int .i64 x.d], .complex .f64 re im] [.one .cpx, .one (.int .i64), .one (.int .i64)] K w := by
  subst h1 h2
  exact sAbove_s o hi hl (fun h => absurd ⟨by omega, hic⟩ h) (fun h => by omega) fun _ _ => hOk
theorem sOffset_w {x : S.Shp} {re im i l : Nat} {K : Int → Int → World → Prop} {w : World} (h1 : re = fw i) (h2 : im = fw l) (o : x.right = true) (hi : i < 2 ^ 53) (hl : l < 2 ^ 53) (h0 : 1 ≤ l) (hlt : l ≤ x.h) (hic : i < x.c l)
    (hOk : ∀ w', Ext w w' → K (((i + x.sumA l) * x.bN : Nat) : Int) 0 w') :
    callS Try.prog 16 #[.agg #[.int .i64 x.s, .int .i64 x.b, .int .i64 x.d], .complex .f64 re im] [.one (.int .i64), .one (.int .i64)] K w := by
  subst h1 h2
  exact sOffset_s o hi hl (fun h => absurd ⟨h0, hlt, hic⟩ h) fun _ _ _ => hOk
theorem anchor08_s {K : Bool → World → Prop} {w : World} (hK : ∀ w', Ext w w' → K true w') : callS Try.prog 8 #[] [.one .bool] K w := by
  refine f8_ok ?_
  unfold f8
  have hr : (⟨1000, 64, 32⟩ : S.Shp).right = true := by decide +kernel
  refine alloc_i fun g w1 e1 hg v1 => ?_
  refine stV_i (n := 3) (vs := shC ⟨1000, 64, 32⟩) 0 v1 rfl (Nat.le_refl 3) (fun v hv => ?_) fun w2 f2 v2 => ?_
  · simp only [shC, List.mem_cons, List.not_mem_nil, or_false] at hv
    rcases hv with rfl | rfl | rfl <;> rfl
  have v2 : Var w2 g (shC ⟨1000, 64, 32⟩) := v2
  have E2 := Fr.own1 e1 f2 hg
  refine ldSh_i v2 ?_
  refine sTotal_s (x := ⟨1000, 64, 32⟩) (fun h => by rw [hr] at h; cases h) fun _ w3 e3 => ?_
  have v3 := v2.ext e3
  refine ldSh_i v3 ?_
  refine sAbove_w (x := ⟨1000, 64, 32⟩) (i := 5) (l := 0) (by decide +kernel) fw0.symm hr (by decide +kernel) (by decide +kernel) (by decide +kernel) (by decide +kernel) fun w4 e4 => ?_
  have v4 := v3.ext e4
  refine ldSh_i v4 ?_
  refine sOffset_w (x := ⟨1000, 64, 32⟩) (i := 0) (l := 3) fw0.symm (by decide +kernel) hr (by decide +kernel) (by decide +kernel) (by decide +kernel) (by decide +kernel) (by decide +kernel) fun w5 e5 => ?_
  have := hK w5 (((E2.trans e3).trans e4).trans e5)
  have e : ((((((((0 : Int) == 0) && ((((⟨1000, 64, 32⟩ : S.Shp).sumA 0 * (⟨1000, 64, 32⟩ : S.Shp).bN : Nat) : Int) == 960)) && ((0 : Int) == 0)) && (fcEq (cz (5 / (⟨1000, 64, 32⟩ : S.Shp).aN) (0 + 1)).re 4611686018427387904 && fcEq (cz (5 / (⟨1000, 64, 32⟩ : S.Shp).aN) (0 + 1)).im 4607182418800017408)) && (((5 % (⟨1000, 64, 32⟩ : S.Shp).aN * (⟨1000, 64, 32⟩ : S.Shp).dN : Nat) : Int) == 32)) && ((0 : Int) == 0)) && ((((0 + (⟨1000, 64, 32⟩ : S.Shp).sumA 3) * (⟨1000, 64, 32⟩ : S.Shp).bN : Nat) : Int) == 64)) = true := by decide +kernel
  rw [← e] at this
  exact this
theorem lawShape_s {x : S.Shp} {K : Int → Int → Int → World → Prop} {w : World} (hK : ∀ w', Ext w w' → K x.s x.b x.d w') : callS Try.prog 9 #[.agg #[.int .i64 x.s, .int .i64 x.b, .int .i64 x.d]] [.agg [.int .i64, .int .i64, .int .i64]] K w := by
  refine f9_ok ?_
  unfold f9
  refine box_i fun g w1 e1 hg v1 => ?_
  have v1 : Var w1 g (shC x) := v1
  refine alloc_i fun g2 w2 e2 hg2 v2 => ?_
  refine ldSh_i (v1.ext e2) ?_
  refine stV_i (n := 3) (vs := shC x) 0 v2 rfl (Nat.le_refl 3) (fun v hv => ?_) fun w3 f3 v3 => ?_
  · simp only [shC, List.mem_cons, List.not_mem_nil, or_false] at hv
    rcases hv with rfl | rfl | rfl <;> rfl
  exact resV_i (n := 3) v3 rfl (hK w3 (e1.trans (Fr.own1 e2 f3 hg2)))
/-- 'x := shape(s)', a variable of its own. -/
theorem lawX_i {x : S.Shp} {K : Addr → World → Prop} {w : World} (hK : ∀ g w', Ext w w' → w.heap.size ≤ g → Var w' g (shC x) → K (at_ g 0) w') :
    callS Try.prog 9 #[(.agg #[(.int .i64 x.s), (.int .i64 x.b), (.int .i64 x.d)])] [(.agg [(.int .i64), (.int .i64), (.int .i64)])] (fun r6 r7 r8 w =>
    semS Try.prog (Instr.alloc 25 true (.tuple #[])) (.one .adr) (fun x9 w =>
    semU Try.prog (Instr.storeAt 25 (.pointer (some x9)) (.agg #[(.int .i64 r6), (.int .i64 r7), (.int .i64 r8)])) (fun w => K x9 w) w) w) w := by
  refine lawShape_s fun w1 e1 => ?_
  refine alloc_i fun g w2 e2 hg v2 => ?_
  refine stV_i (n := 3) (vs := shC x) 0 v2 rfl (Nat.le_refl 3) (fun v hv => ?_) fun w3 f3 v3 => ?_
  · simp only [shC, List.mem_cons, List.not_mem_nil, or_false] at hv
    rcases hv with rfl | rfl | rfl <;> rfl
  have s1 := e1.size
  exact hK g w3 (e1.trans (Fr.own1 e2 f3 hg)) (by omega) v3
theorem PlaceCounts_s {x : S.Shp} {K : Bool → World → Prop} {w : World} (hx : okS x) (hK : ∀ w', Ext w w' → K true w') :
    callS Try.prog 3 #[.agg (shC x).toArray] [.one .bool] K w := by
  refine f3_ok ?_
  unfold f3
  refine box_i fun g w1 e1 hg v1 => ?_
  have v1 : Var w1 g (shC x) := v1
  refine anchor08_s fun w2 e2 => ?_
  refine cond_i (fun h => by cases h) (fun _ => ?_)
  have v2 := v1.ext e2
  refine ldSh_i v2 ?_
  refine lawX_i fun g3 w3 e3 hg3 v3 => ?_
  have v2 := v2.ext e3
  have E3 := (e1.trans e2).trans e3
  refine ldSh_i v2 ?_
  cases hr : x.right with
  | false =>
    refine sCounts_s (fun _ w4 e4 => ?_) (fun h => by rw [hr] at h; cases h)
    refine ldSh_i (v2.ext e4) ?_
    refine sTotal_s (fun _ w5 e5 => ?_) (fun h => by rw [hr] at h; cases h)
    have hd := Ext.drew w5
    have e45 := e4.trans e5
    refine ⟨fun y => Ext w5 y, hd, ?_⟩
    refine ldShQ_i (x := x) (fun y hy => (v2.ext e45).ext hy) ?_
    refine ldShQ_i (x := x) (fun y hy => (v3.ext e45).ext hy) ?_
    refine sRight_s fun w6 e6 => ?_
    refine more_i (hd.trans e6) ?_
    refine rRight_s fun w7 e7 => ?_
    refine cond_i (fun h => by simp at h) (fun _ => ?_)
    have e67 := (hd.trans e6).trans e7
    refine ldSh_i ((v3.ext e45).ext e67) ?_
    refine rRight_s fun w8 e8 => ?_
    rw [hr]
    refine cond_i (fun _ => ?_) (fun h => by cases h)
    exact hK w8 (((E3.trans e45).trans e67).trans e8)
  | true =>
    have o := S.Shp.ok_of hr
    have hh := S.Shp.h_le o
    refine sCounts_s (fun h => by rw [hr] at h; cases h) (fun _ c w4 e4 o4 => ?_)
    refine ldSh_i (v2.ext e4) ?_
    refine sTotal_s (fun h => by rw [hr] at h; cases h) (fun _ w5 e5 => ?_)
    have hd := Ext.drew w5
    have e45 := e4.trans e5
    refine ⟨fun y => Ext w5 y, hd, ?_⟩
    refine ldShQ_i (x := x) (fun y hy => (v2.ext e45).ext hy) ?_
    refine ldShQ_i (x := x) (fun y hy => (v3.ext e45).ext hy) ?_
    refine sRight_s fun w6 e6 => ?_
    refine more_i (hd.trans e6) ?_
    refine rRight_s fun w7 e7 => ?_
    refine cond_i (fun h => by simp at h) (fun _ => ?_)
    have e67 := (hd.trans e6).trans e7
    have v3' := (v3.ext e45).ext e67
    refine ldSh_i v3' ?_
    refine rRight_s fun w8 e8 => ?_
    rw [hr]
    refine cond_i (fun h => by cases h) (fun _ => ?_)
    refine ldSh_i (v3'.ext e8) ?_
    refine rCounts_s o fun v w9 e9 o9 => ?_
    have e59 := (e67.trans e8).trans e9
    have hcl : c.len = x.h + 1 := by have := o4.len; simp [S.Shp.cs_len] at this; omega
    have hvl : v.len = x.h + 1 := by have := o9.len; simp [S.Shp.cs_len] at this; omega
    refine join_i (fun b w' => b = false ∧ Ext w9 w') ?_ fun J hJ => ?_
    rotate_left
    · refine cond_i (fun h => by simp at h) (fun _ => ?_)
      refine ldSh_i ((v3'.ext e8).ext e9) ?_
      refine rTotal_s o fun w10 e10 => ?_
      exact hJ _ _ ⟨by simp, e10⟩
    rintro b w10 ⟨rfl, e10⟩
    refine cond_i (fun h => by rw [hcl, hvl] at h; simp at h) (fun _ => ?_)
    have oc := ((o4.ext e5).ext e59).ext e10
    have ov := o9.ext e10
    refine loop_i (fun (y : Int) w' => w' = w10 ∧ ∃ k : Nat, k ≤ x.h + 1 ∧ y = k) (fun y _ => x.h + 1 - y.toNat) ⟨rfl, 0, by omega, rfl⟩ ?_
    rintro y w' again ⟨rfl, k, hk, rfl⟩ hag
    refine cond_i (fun hlt => ?_) (fun _ => hK _ (((E3.trans e45).trans e59).trans e10))
    have hk' : k ≤ x.h := by have := of_decide_eq_true hlt; omega
    have hget : (x.cs.map vI)[((k : Int)).toNat]? = some (Lf.enc (.int .i64) (x.c k : Int)) := by rw [Int.toNat_natCast, List.getElem?_map, S.Shp.cs_get hk']; rfl
    refine elem_i (l := .int .i64) (x := (x.c k : Int)) oc.rd (by omega) (by omega) hget ?_
    refine elem_i (l := .int .i64) (x := (x.c k : Int)) ov.rd (by omega) (by omega) hget ?_
    refine cond_i (fun h => by simp at h) (fun _ => ?_)
    refine hag _ _ ⟨rfl, k + 1, by omega, ?_⟩ ?_
    · simp only [wrap_i64 (x := (k : Int) + 1) (by omega) (by omega)]; omega
    · simp only [wrap_i64 (x := (k : Int) + 1) (by omega) (by omega)]; omega
end Go.Proofs.Ytanjnmoonndfhaa
namespace Go.S
open Go Go.Eng
namespace Shp
/-- A greater size. -/
theorem grow {x y : Shp} (hx : x.Ok) (hy : y.Ok) (hs : x.sN ≤ y.sN) (hb : y.bN = x.bN) (hd : y.dN = x.dN) : (∀ k, x.c k ≤ y.c k) ∧ x.h ≤ y.h := by
  have ha : y.aN = x.aN := by unfold aN; rw [hb, hd]
  have hc : ∀ k, x.c k ≤ y.c k := fun k => by
    induction k with
    | zero => show up x.sN x.bN ≤ up y.sN y.bN; rw [hb]; exact up_mono hs
    | succ k ih => show up (x.c k) x.aN ≤ up (y.c k) y.aN; rw [ha]; exact up_mono ih
  refine ⟨hc, ?_⟩
  apply (h_iff hx).1
  have := hc y.h
  rw [h_top hy] at this; exact this
theorem up_next {n a : Nat} (ha : 1 ≤ a) : (up (n + 1) a = up n a + 1) ↔ n % a = 0 := by
  have h1 : up (n + 1) a = n / a + 1 := by
    unfold up
    rw [show n + 1 + a - 1 = n + a by omega, Nat.add_div_right _ (by omega)]
  have h2 : up n a = if n % a = 0 then n / a else n / a + 1 := by
    unfold up
    have h := Nat.div_add_mod n a
    have hr := Nat.mod_lt n (show a > 0 by omega)
    generalize n / a = q at h ⊢
    generalize n % a = r at h hr ⊢
    subst h
    by_cases h0 : r = 0
    · rw [if_pos h0, h0, show a * q + 0 + a - 1 = a * q + (a - 1) by omega, Nat.mul_add_div (by omega), Nat.div_eq_of_lt (by omega)]; rfl
    · rw [if_neg h0, show a * q + r + a - 1 = a * q + (a + (r - 1)) by omega, Nat.mul_add_div (by omega), show a + (r - 1) = a * 1 + (r - 1) by omega, Nat.mul_add_div (by omega), Nat.div_eq_of_lt (a := r - 1) (by omega)]
  rw [h1, h2]
  split <;> omega
end Shp
end Go.S
namespace Go.Proofs.Ytanjnmoonndfhaa
open Go Go.Eng
theorem right_grow {x : S.Shp} {m : Int} (hr : x.right = true) (h0 : 0 ≤ m) (h1 : m ≤ 1099511627776 - x.s) : (⟨x.s + m, x.b, x.d⟩ : S.Shp).right = true := by
  unfold S.Shp.right at hr ⊢
  simp only [Bool.and_eq_true, decide_eq_true_eq] at hr ⊢
  obtain ⟨⟨⟨⟨h2, h3⟩, h4⟩, h5⟩, h6⟩ := hr
  exact ⟨⟨⟨⟨by omega, by omega⟩, h4⟩, h5⟩, h6⟩
theorem PlaceGrows_s {x : S.Shp} {m : Int} {K : Bool → World → Prop} {w : World} (hx : okS x) (hm : i64b m) (hK : ∀ w', Ext w w' → K true w') :
    callS Try.prog 4 #[.agg (shC x).toArray, .int .i64 m] [.one .bool] K w := by
  refine f4_ok ?_
  unfold f4
  refine box_i fun g w1 e1 hg v1 => ?_
  have v1 : Var w1 g (shC x) := v1
  refine anchor08_s fun w2 e2 => ?_
  refine cond_i (fun h => by cases h) (fun _ => ?_)
  have v2 := v1.ext e2
  refine ldSh_i v2 ?_
  refine lawShape_s fun w3 e3 => ?_
  refine rRight_s fun w4 e4 => ?_
  have e34 := e3.trans e4
  have v4 := v2.ext e34
  have E4 := (e1.trans e2).trans e34
  refine join_i (fun b w' => (b = false → x.right = true ∧ 0 ≤ m ∧ m ≤ 1099511627776 - x.s) ∧ w4 = w') ?_ fun J hJ => ?_
  rotate_left
  · refine cond_i (fun _ => hJ _ _ ⟨fun h => (by cases h), rfl⟩) (fun h => ?_)
    rw [Bool.or_eq_false_iff] at h
    have hr := not_f h.1
    have h0 : ¬ m < 0 := of_decide_eq_false h.2
    have o := S.Shp.ok_of hr
    have hs2 := o.s2
    have hss := o.s
    refine ld1_i (l := .int .i64) (o := 0) x.s v4 rfl (hJ _ _ ⟨fun hf => ?_, rfl⟩)
    rw [wrap_i64 (by omega) (by omega)] at hf
    have : ¬ m > 1099511627776 - x.s := of_decide_eq_false hf
    exact ⟨hr, by omega, by omega⟩
  rintro b w' ⟨hb, rfl⟩
  refine cond_i (fun _ => hK w4 E4) (fun hf => ?_)
  obtain ⟨hr, h0, h1⟩ := hb hf
  have o := S.Shp.ok_of hr
  have hs2 := o.s2
  have hss := o.s
  have hb1 := o.b1
  refine ldSh_i v4 ?_
  refine alloc_i fun g5 w5 e5 hg5 v5 => ?_
  refine stV_i (n := 3) (vs := shC x) 0 v5 rfl (Nat.le_refl 3) (fun v hv => ?_) fun w6 f6 v6 => ?_
  · simp only [shC, List.mem_cons, List.not_mem_nil, or_false] at hv
    rcases hv with rfl | rfl | rfl <;> rfl
  have v6 : Var w6 g5 (shC x) := v6
  refine ld1_i (l := .int .i64) (o := 0) x.s v6 rfl ?_
  rw [wrap_i64 (by omega) (by omega)]
  refine st1_i (o := 0) v6 (show 0 < 3 by decide) rfl fun w7 f7 v7 => ?_
  have v7 : Var w7 g5 (shC ⟨x.s + m, x.b, x.d⟩) := v7
  have E67 : Ext w4 w7 := Fr.own1 (Fr.own1 e5 f6 hg5) f7 hg5
  have v7' := v4.ext E67
  have hry := right_grow hr h0 h1
  have oy := S.Shp.ok_of hry
  obtain ⟨hc, hh⟩ := S.Shp.grow o oy (by show x.s.toNat ≤ (x.s + m).toNat; omega) rfl rfl
  refine ldSh_i v7' ?_
  refine sCounts_s (fun h => by rw [hr] at h; cases h) (fun _ ca w8 e8 o8 => ?_)
  refine ldSh_i (v7.ext e8) ?_
  refine sCounts_s (x := ⟨x.s + m, x.b, x.d⟩) (fun h => by rw [hry] at h; cases h) (fun _ cb w9 e9 o9 => ?_)
  have hxh := S.Shp.h_le o
  have hyh := S.Shp.h_le oy
  have hcl : ca.len = x.h + 1 := by have := o8.len; simp [S.Shp.cs_len] at this; omega
  have hvl : cb.len = (⟨x.s + m, x.b, x.d⟩ : S.Shp).h + 1 := by have := o9.len; simp [S.Shp.cs_len] at this; omega
  refine cond_i (fun h => ?_) (fun _ => ?_)
  · rw [hcl, hvl] at h
    simp at h; omega
  have E9 := ((E4.trans E67).trans e8).trans e9
  have oc := o8.ext e9
  have hxm := S.Shp.c_max o 0
  refine loop_i (fun (y : Int) w' => w' = w9 ∧ ∃ k : Nat, k ≤ x.h + 1 ∧ y = k) (fun y _ => x.h + 1 - y.toNat) ⟨rfl, 0, by omega, rfl⟩ ?_
  rintro y w' again ⟨rfl, k, hk, rfl⟩ hag
  refine cond_i (fun hlt => ?_) (fun _ => ?_)
  · have hk' : k ≤ x.h := by have := of_decide_eq_true hlt; omega
    refine elem_i (l := .int .i64) (x := (x.c k : Int)) oc.rd (by omega) (by omega) (by rw [Int.toNat_natCast, List.getElem?_map, S.Shp.cs_get hk']; rfl) ?_
    refine elem_i (l := .int .i64) (x := ((⟨x.s + m, x.b, x.d⟩ : S.Shp).c k : Int)) o9.rd (by omega) (by omega) (by rw [Int.toNat_natCast, List.getElem?_map, S.Shp.cs_get (by omega)]; rfl) ?_
    have hck := hc k
    refine cond_i (fun h => ?_) (fun _ => ?_)
    · have h2 : ((⟨x.s + m, x.b, x.d⟩ : S.Shp).c k : Int) < (x.c k : Int) := of_decide_eq_true h
      omega
    refine hag _ _ ⟨rfl, k + 1, by omega, ?_⟩ ?_
    · simp only [wrap_i64 (x := (k : Int) + 1) (by omega) (by omega)]; omega
    · simp only [wrap_i64 (x := (k : Int) + 1) (by omega) (by omega)]; omega
  · have hd := Ext.drew w'
    refine ⟨fun y => Ext w' y, hd, ?_⟩
    refine cond_i (fun _ => hK _ (E9.trans hd)) (fun hm1 => ?_)
    have hm1' : m = 1 := by simpa using hm1
    obtain ⟨a1, ha1⟩ := oc.rd.some (by omega)
    obtain ⟨a2, ha2⟩ := o9.rd.some (by omega)
    have vq := ((v7'.ext e8).ext e9)
    refine elemQ_i (l := .int .i64) (x := ((⟨x.s + m, x.b, x.d⟩ : S.Shp).c 0 : Int)) ha2 (fun y hy => o9.rd.ext hy) (by omega) (by omega) (by rw [show (0 : Int).toNat = 0 from rfl, List.getElem?_map, S.Shp.cs_get (Nat.zero_le _)]; rfl) ?_
    refine elemQ_i (l := .int .i64) (x := (x.c 0 : Int)) ha1 (fun y hy => oc.rd.ext hy) (by omega) (by omega) (by rw [show (0 : Int).toNat = 0 from rfl, List.getElem?_map, S.Shp.cs_get (Nat.zero_le _)]; rfl) ?_
    refine ld1Q_i (l := .int .i64) (o := 0) x.s (fun y hy => vq.ext hy) rfl ?_
    refine ld1Q_i (l := .int .i64) (o := 1) x.b (fun y hy => vq.ext hy) rfl ?_
    refine remQ_i (by rw [o.b]; omega) ?_
    have := hK _ (E9.trans hd)
    have hn := S.Shp.up_next (n := x.sN) (a := x.bN) (by omega)
    have hc0 : (⟨x.s + m, x.b, x.d⟩ : S.Shp).c 0 = S.up (x.sN + 1) x.bN := by
      show S.up ((x.s + m).toNat) x.bN = _
      congr 1
      rw [hss, hm1']; omega
    have hx0 : x.c 0 = S.up x.sN x.bN := rfl
    have e : ((((⟨x.s + m, x.b, x.d⟩ : S.Shp).c 0 : Int) == (IntKind.wrap .i64 ((x.c 0 : Int) + 1))) == (Int.tmod x.s x.b == 0)) = true := by
      rw [wrap_i64 (by omega) (by omega), hc0, hx0, hss, o.b, S.tmod_n, beq_iff_eq, Bool.eq_iff_iff, beq_iff_eq, beq_iff_eq]
      constructor
      · intro h; have := hn.1 (by omega); omega
      · intro h; have := hn.2 (by omega); omega
    rw [← e] at this
    exact this
end Go.Proofs.Ytanjnmoonndfhaa
