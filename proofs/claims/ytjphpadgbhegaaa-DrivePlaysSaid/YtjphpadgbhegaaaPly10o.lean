/- Layer 10 (drive): bad sectors that are cleared, one after another. -/
import Derived.Test.YtjphpadgbhegaaaPly10n
set_option linter.unusedSimpArgs false
set_option linter.unusedVariables false
namespace Go.Proofs.Ytjphpadgbhegaaa
open Go Go.Eng
theorem clear_s {w : World} {gd gx i len : Nat} {L : Lay} {D : S.Drv} {nm : List UInt8} {cs : List Value} {K : World → Prop} (h : DriveAt w gd L D) (hd : D.down = false) (hi : i < D.as.length) (hat : D.at? nm = some i) (hlen : len = (D.ar i).b.length / 64) (hb : (D.ar i).b.length ≤ 1048576)
    (v : Var w gx cs) (hn : cs[0]? = some (.string (str nm))) (hgx : ¬ L.inD gd gx)
    (hK : ∀ w' f, Fr (L.inD gd) w w' → DriveAt w' gd L (D.set i ((D.ar i).setBad f)) → (∀ s : Int, 0 ≤ s → s < len → f s = false) → K w') :
    loopS (σ := Int) (fun x68 w again69 =>
                            cond (decide (x68 < (len : Int)))
                              (semS Try.prog (Instr.loadAt 9 (.pointer (some (at_ gx 0)))) (.one .str) (fun x70 w =>
                              callS Try.prog 14 #[(.pointer (some (at_ gd 0))), (.string x70), (.int .i64 x68), (.bool false)] [(.one .bool)] (fun r71 w =>
                              again69 (IntKind.wrap .i64 (x68 + 1)) w) w) w)
                              (K w)) 0 w := by
  refine loop_i (fun (x : Int) w' => ∃ (k : Nat) (f : Int → Bool), k ≤ len ∧ x = k ∧ Fr (L.inD gd) w w' ∧ DriveAt w' gd L (D.set i ((D.ar i).setBad f)) ∧ ∀ s : Int, 0 ≤ s → s < k → f s = false) (fun x _ => len - x.toNat) ⟨0, (D.ar i).bad, by omega, rfl, Fr.refl _ _, ?_, fun s h1 h2 => by omega⟩ ?_
  · have : (D.ar i).setBad (D.ar i).bad = D.ar i := rfl
    rw [this, S.Drv.set_self hi]; exact h
  rintro x w1 again ⟨k, f, hk, rfl, f1, d1, hf⟩ hag
  refine cond_i (fun hlt => ?_) (fun hge => ?_)
  · have hkl : k < len := by have := of_decide_eq_true hlt; omega
    refine ld1_i (l := .str) (o := 0) (str nm) (v.fr f1 hgx) hn ?_
    refine dBad_s d1 ⟨by omega, by omega⟩ fun w2 f2 d2 => ?_
    rw [str_toList] at d2
    have hat1 : (D.set i ((D.ar i).setBad f)).at? nm = some i := by rw [S.Drv.at?_set (by rfl)]; exact hat
    have har : (D.set i ((D.ar i).setBad f)).ar i = (D.ar i).setBad f := S.Drv.ar_set hi _
    have hbs : ((D.set i ((D.ar i).setBad f)).badS nm (k : Int) false).2 = D.set i ((D.ar i).setBad fun s => if s = (k : Int) then false else f s) := by
      unfold S.Drv.badS
      rw [hat1]
      dsimp only
      rw [har, if_neg (by rw [S.Area.setBad_b]; omega), S.Drv.set_set]; rfl
    rw [hbs] at d2
    refine hag _ w2 ⟨k + 1, _, by omega, ?_, f1.trans' f2, d2, fun s h1 h2 => ?_⟩ ?_
    · simp only [wrap_i64 (x := (k : Int) + 1) (by omega) (by omega)]; omega
    · by_cases hs : s = (k : Int)
      · rw [if_pos hs]
      · rw [if_neg hs]; exact hf s h1 (by omega)
    · simp only [wrap_i64 (x := (k : Int) + 1) (by omega) (by omega)]; omega
  · have hkl : k = len := by have := of_decide_eq_false hge; omega
    subst hkl
    exact hK w1 f f1 d1 hf
end Go.Proofs.Ytjphpadgbhegaaa
