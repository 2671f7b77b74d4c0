/- Layer 8 (place): the document's places. -/
import Derived.Test.YtanjnmoonndfhaaPlc08c
set_option linter.unusedSimpArgs false
set_option linter.unusedVariables false
namespace Go.Proofs.Ytanjnmoonndfhaa
open Go Go.Eng
section
variable {x : S.Shp}
def plC (i l : Nat) : List Value := [.int .i64 (i : Int), .int .i64 (l : Int)]
theorem rIn_s {i l : Nat} {K : Bool → World → Prop} {w : World} (o : x.Ok) (hK : ∀ w', Ext w w' → K (decide (l ≤ x.h ∧ i < x.c l)) w') :
    callS Try.prog 19 #[.agg #[.int .i64 x.s, .int .i64 x.b, .int .i64 x.d], .agg #[.int .i64 (i : Int), .int .i64 (l : Int)]] [.one .bool] K w := by
  refine f19_ok ?_
  unfold f19
  refine box_i fun g w1 e1 hg v1 => ?_
  have v1 : Var w1 g (shC x) := v1
  refine box_i fun g2 w2 e2 hg2 v2 => ?_
  have v2 : Var w2 g2 (plC i l) := v2
  refine ldSh_i (v1.ext e2) ?_
  refine rCounts_s o fun v w3 e3 o3 => ?_
  have hvl : v.len = x.h + 1 := by have := o3.len; simp [S.Shp.cs_len] at this; omega
  have v3 := v2.ext e3
  have hd := Ext.drew w3
  have E := ((e1.trans e2).trans e3).trans hd
  refine ⟨fun y => Ext w3 y, hd, ?_⟩
  have L0 : ∀ {K : Int → Prop}, K (i : Int) → semQ Try.prog (fun y => Ext w3 y) (Instr.loadAt 3 (.pointer (some (at_ g2 0)))) (.one (.int .i64)) K := fun h => ld1Q_i (l := .int .i64) (i : Int) (fun y hy => v3.ext hy) rfl h
  have L1 : ∀ {K : Int → Prop}, K (l : Int) → semQ Try.prog (fun y => Ext w3 y) (Instr.loadAt 3 (.pointer (some (at_ g2 1)))) (.one (.int .i64)) K := fun h => ld1Q_i (l := .int .i64) (l : Int) (fun y hy => v3.ext hy) rfl h
  refine L1 ?_
  refine cond_i (fun _ => L1 ?_) (fun h => absurd (show (l : Int) ≥ 0 by omega) (of_decide_eq_false h))
  refine cond_i (fun h => L0 ?_) (fun h => ?_)
  · have hl : l ≤ x.h := by have h2 : (l : Int) < (v.len : Int) := of_decide_eq_true h
                            omega
    refine cond_i (fun _ => L0 (L1 ?_)) (fun h => absurd (show (i : Int) ≥ 0 by omega) (of_decide_eq_false h))
    obtain ⟨a, ha⟩ := o3.rd.some (by omega)
    refine elemQ_i (l := .int .i64) (x := (x.c l : Int)) ha (fun y hy => o3.rd.ext hy) (by omega) (by omega) (by rw [Int.toNat_natCast, List.getElem?_map, S.Shp.cs_get hl]; rfl) ?_
    have := hK _ E
    rw [show decide ((i : Int) < (x.c l : Int)) = decide (l ≤ x.h ∧ i < x.c l) from decide_eq_decide.2 (by omega)]
    exact this
  · have hl : ¬ l ≤ x.h := by have h2 : ¬ (l : Int) < (v.len : Int) := of_decide_eq_false h
                              omega
    have := hK _ E
    rw [decide_eq_false (fun h => hl h.1)] at this; exact this
theorem rAbove_s {i l : Nat} {K : Int → Int → Int → World → Prop} {w : World} (o : x.Ok) (hi : i ≤ 4611686018427387904) (hl : l ≤ 4611686018427387904) (hK : ∀ w', Ext w w' → K ((i / x.aN : Nat) : Int) ((l + 1 : Nat) : Int) ((i % x.aN * x.dN : Nat) : Int) w') :
    callS Try.prog 20 #[.agg #[.int .i64 x.s, .int .i64 x.b, .int .i64 x.d], .agg #[.int .i64 (i : Int), .int .i64 (l : Int)]] [.agg [.int .i64, .int .i64], .one (.int .i64)] K w := by
  refine f20_ok ?_
  unfold f20
  refine box_i fun g w1 e1 hg v1 => ?_
  have v1 : Var w1 g (shC x) := v1
  refine box_i fun g2 w2 e2 hg2 v2 => ?_
  have v2 : Var w2 g2 (plC i l) := v2
  refine alloc_i fun g3 w3 e3 hg3 v3 => ?_
  have E1 := e2.trans e3
  have E3 := e1.trans E1
  refine ld1_i (l := .int .i64) (o := 1) x.b (v1.ext E1) rfl ?_
  refine ld1_i (l := .int .i64) (o := 2) x.d (v1.ext E1) rfl ?_
  have hdd := o.dd
  have ha1 := o.a1
  have ha2 := o.a2
  refine quo_i (by rw [o.d]; omega) ?_
  rw [aN_i o]
  have hd := Ext.drew w3
  refine ⟨fun y => Ext w2 y, e3.trans hd, ?_⟩
  refine ld1Q_i (l := .int .i64) (o := 0) (i : Int) (fun y hy => v2.ext hy) rfl ?_
  refine quoQ_i (by omega) ?_
  have hq : i / x.aN ≤ i := Nat.div_le_self _ _
  rw [S.tdiv_n, wrap_nat (by omega)]
  refine ld1Q_i (l := .int .i64) (o := 1) (l : Int) (fun y hy => v2.ext hy) rfl ?_
  refine ld1Q_i (l := .int .i64) (o := 0) (i : Int) (fun y hy => v2.ext hy) rfl ?_
  refine remQ_i (by omega) ?_
  rw [S.tmod_n]
  refine ld1Q_i (l := .int .i64) (o := 2) x.d (fun y hy => (v1.ext e2).ext hy) rfl ?_
  have hm := Nat.mod_lt i (show x.aN > 0 by omega)
  have hmd := Nat.mul_le_mul (show i % x.aN ≤ 128 by omega) (show x.dN ≤ 64 by omega)
  rw [o.d, ← Int.natCast_mul, wrap_nat (n := i % x.aN * x.dN) (by omega), show (l : Int) + 1 = ((l + 1 : Nat) : Int) by omega, wrap_nat (n := l + 1) (by omega)]
  refine stV_i (n := 2) (vs := plC (i / x.aN) (l + 1)) 0 (v3.ext hd) rfl (Nat.le_refl 2) (fun v hv => ?_) fun w4 f4 v4 => ?_
  · simp only [plC, List.mem_cons, List.not_mem_nil, or_false] at hv
    rcases hv with rfl | rfl <;> rfl
  have E4 : Ext w2 w4 := Fr.own1 (e3.trans hd) f4 hg3
  refine more_i E4 ?_
  exact resV_i (n := 2) v4 rfl (hK w4 ((e1.trans e2).trans E4))
theorem rNumber_s {i l : Nat} {K : Cx → World → Prop} {w : World} (hK : ∀ w', Ext w w' → K (cz i l) w') : callS Try.prog 18 #[.agg #[.int .i64 (i : Int), .int .i64 (l : Int)]] [.one .cpx] K w := by
  refine f18_ok ?_
  unfold f18
  refine box_i fun g w1 e1 hg v1 => ?_
  have v1 : Var w1 g (plC i l) := v1
  refine ld1_i (l := .int .i64) (o := 0) (i : Int) v1 rfl ?_
  refine ld1_i (l := .int .i64) (o := 1) (l : Int) v1 rfl ?_
  exact hK w1 e1
end
end Go.Proofs.Ytanjnmoonndfhaa
