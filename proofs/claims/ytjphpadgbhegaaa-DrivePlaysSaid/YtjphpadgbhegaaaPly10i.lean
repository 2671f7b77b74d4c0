/- Layer 10 (drive): a step of a play. -/
import Derived.Test.YtjphpadgbhegaaaPly10h
set_option linter.unusedSimpArgs false
set_option linter.unusedVariables false
namespace Go.Proofs.Ytjphpadgbhegaaa
open Go Go.Eng
section
variable {w w' : World} {B gd gt : Nat} {L : Lay} {T : TLay} {lf : Int} {ar : Bool} {ks : Sl} {D : S.Drv}
theorem step_s {o : DOp} {K : Bool → World → Prop} (h : Both w B gd gt L T lf ar ks D) (ho : o.Ok w) (hs : D.count + 1 ≤ 1000000000 ∧ D.bytes + 1048576 ≤ 1000000000000000)
    (hdl : o.dat.2.length ≤ 1000) (hsep : o.dat.2 ≠ [] → ∀ a, o.dat.1.a = some a → a.block < B) (hkl : o.keep.2.length ≤ 1000) (hsepk : o.keep.2 ≠ [] → ∀ a, o.keep.1.a = some a → a.block < B) (hK : StepK B gd gt 0 T D w K) :
    callS Try.prog 20 #[.pointer (some (at_ gd 0)), .pointer (some (at_ gt 0)), .agg o.cells.toArray] [.one .bool] K w := by
  refine f20_ok ?_
  unfold f20
  refine box_i fun g1 w1 e1 hg1 v1 => ?_
  have v1 : Var w1 g1 o.cells := v1
  refine ld1_i (l := .str) (o := 3) (str o.name) v1 rfl ?_
  refine tpart_s (h.ext e1).t h.s.n fun w2 e2 => ?_
  rw [str_toList]
  have e12 := e1.trans e2
  have h2 := h.ext e12
  have ho2 := ho.ext e12
  have v2 := v1.ext e2
  have hg : ∀ k, (T.own D.as.length k ∨ k = gt ∨ L.inD gd k) → k ≠ g1 := fun k hk => by
    rcases hk with hk | hk | hk
    · have := h.t.lt k hk; omega
    · have := h.t.var.lt; omega
    · have := h.d.lt hk; omega
  have hK2 : StepK B gd gt 0 T D w2 K := fun w' L' lf' ar' ks' D' f b l => hK w' L' lf' ar' ks' D' (e12.fr.trans' f) b l
  refine ld1_i (l := .int .i64) (o := 0) o.kind v2 rfl ?_
  refine cond_i (fun _ => ?_) (fun _ => ?_)
  · refine ldOp_i v2 ?_
    exact stepRead_s h2 ho2 v2 (fun k hk => hg k (hk.elim (fun e => .inr (.inr (.inl e))) fun e => .inr (.inl e))) hs hK2
  refine cond_i (fun _ => ?_) (fun _ => ?_)
  · refine ldOp_i v2 ?_
    exact stepWrite_s h2 ho2 v2 hg hs hdl hsep hK2
  refine cond_i (fun _ => ?_) (fun _ => ?_)
  · exact stepTurn_s h2 ho2 v2 hg hs rfl hdl hsep hK2
  refine cond_i (fun _ => ?_) (fun _ => ?_)
  · exact stepBad_s h2 ho2 v2 hg hs rfl hK2
  refine cond_i (fun _ => ?_) (fun _ => ?_)
  · exact stepArm_s h2 ho2 v2 hg hs hkl hsepk hK2
  refine cond_i (fun _ => ?_) (fun _ => ?_)
  · exact stepBoot_s h2 hs hK2
  · exact hK2 w2 L lf ar ks D (Fr.refl _ _) h2 (S.Like.refl D)
end
end Go.Proofs.Ytjphpadgbhegaaa
