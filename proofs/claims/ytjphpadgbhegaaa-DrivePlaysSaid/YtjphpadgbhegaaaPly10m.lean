/- Layer 10 (drive): the law DrivePlays (in work: the branch of a right drive is missing). -/
import Derived.Test.YtjphpadgbhegaaaPly10l
set_option linter.unusedSimpArgs false
set_option linter.unusedVariables false
namespace Go.Proofs.Ytjphpadgbhegaaa
open Go Go.Eng
/-- The loop that looks at the parts' sizes: quiet, and told the same whatever it finds. -/
theorem sizes_s {w : World} {p0 : Sl} {ps : S.PartL} {K : Bool → World → Prop} {R : World → Prop} (hp : PartsIn w p0 ps) (hl : ps.length ≤ 30) (hT : ∀ w', Ext w w' → K true w') (hR : ∀ w', Ext w w' → R w') :
    loopS (σ := Int) (fun x5 w again6 =>
        cond (decide (x5 < (p0.len : Int)))
          (semS Try.prog (Instr.indexAt 31 (.slice p0.a p0.len p0.cap) (.int .i64 x5)) (.one .adr) (fun x7 w =>
          semS Try.prog (Instr.loadAt 30 (.pointer (some x7))) (.agg [.str, (.int .i64)]) (fun x8 x9 w =>
          semS Try.prog (Instr.alloc 30 true (.tuple #[])) (.one .adr) (fun x10 w =>
          semU Try.prog (Instr.storeAt 30 (.pointer (some x10)) (.agg #[(.string x8), (.int .i64 x9)])) (fun w =>
          semS Try.prog (Instr.loadAt 9 (.pointer (some (x10.add 0)))) (.one .str) (fun x11 w =>
          joinS (σ := Bool) (fun b12 w =>
            cond b12
              (K true w)
              (again6 (IntKind.wrap .i64 (x5 + 1)) w)) fun J13 =>
          cond (decide ((x11.size : Int) > 100))
            (J13 true w)
            (semS Try.prog (Instr.loadAt 2 (.pointer (some (x10.add 1)))) (.one (.int .i64)) (fun x14 w =>
              joinS (σ := Bool) (fun b15 w =>
                J13 b15 w) fun J16 =>
              cond (decide (x14 > 1000))
                (semS Try.prog (Instr.loadAt 2 (.pointer (some (x10.add 1)))) (.one (.int .i64)) (fun x17 w =>
                  J16 (decide (x17 ≤ 1048576)) w) w)
                (J16 false w)) w)) w) w) w) w) w)
          (R w)) 0 w := by
  have hpl := hp.len
  refine loop_i (fun (x : Int) w' => Ext w w' ∧ ∃ i : Nat, i ≤ ps.length ∧ x = i) (fun x _ => ps.length - x.toNat) ⟨Fr.refl _ _, 0, by omega, rfl⟩ ?_
  rintro x w1 again ⟨e1, i, hi, rfl⟩ hag
  refine cond_i (fun hlt => ?_) (fun _ => hR w1 e1)
  have hilt : i < ps.length := by have := of_decide_eq_true hlt; omega
  refine part_at (hp.ext e1) hilt fun g w2 e2 hg v2 => ?_
  generalize ps.getD i ([], 0) = p at v2
  refine ld1_i (l := .str) (o := 0) (str p.1) v2 rfl ?_
  refine join_i (fun _ w' => w2 = w') ?_ fun J hJ => ?_
  · rintro c w' rfl
    refine cond_i (fun _ => hT _ (e1.trans e2)) (fun _ => ?_)
    refine hag _ w2 ⟨e1.trans e2, i + 1, by omega, ?_⟩ ?_
    · simp only [wrap_i64 (x := (i : Int) + 1) (by omega) (by omega)]; omega
    · simp only [wrap_i64 (x := (i : Int) + 1) (by omega) (by omega)]; omega
  · refine cond_i (fun _ => hJ _ _ rfl) (fun _ => ?_)
    refine ld1_i (l := .int .i64) (o := 1) p.2 v2 rfl ?_
    refine join_i (fun _ w' => w2 = w') (fun c w' h => hJ _ _ h) fun J2 hJ2 => ?_
    refine cond_i (fun _ => ?_) (fun _ => hJ2 _ _ rfl)
    exact ld1_i (l := .int .i64) (o := 1) p.2 v2 rfl (hJ2 _ _ rfl)
end Go.Proofs.Ytjphpadgbhegaaa
