/- Layer 8 (place): is a shape right? (the program's, and the document's) -/
import Derived.Test.YtgjbajjggmpmmaaSh
import Derived.Test.YtgjbajjggmpmmaaTy
import Derived.Test.YtgjbajjggmpmmaaLib6
import Derived.Test.YtgjbajjggmpmmaaPure08
set_option linter.unusedSimpArgs false
set_option linter.unusedVariables false
namespace Go.Proofs.Ytgjbajjggmpmmaa
open Go Go.Eng
theorem not_f {b : Bool} (h : (!b) = false) : b = true := by cases b <;> simp_all
theorem not3 (a b c : Bool) : (!((!a || !b) || !c)) = (a && b && c) := by cases a <;> cases b <;> cases c <;> rfl
theorem beq1 (n : Nat) : ((n : Int) == 1) = (n == 1) := by
  rw [Bool.eq_iff_iff, beq_iff_eq, beq_iff_eq]
  omega
def shC (x : S.Shp) : List Value := [.int .i64 x.s, .int .i64 x.b, .int .i64 x.d]
theorem ldSh_i {P : Program} {t g : Nat} {w : World} [AggTy P t 3] {x : S.Shp} {K : Int → Int → Int → World → Prop} (hv : Var w g (shC x)) (hK : K x.s x.b x.d w) :
    semS P (Instr.loadAt t (.pointer (some (at_ g 0)))) (.agg [(.int .i64), (.int .i64), (.int .i64)]) K w :=
  ldV_i (n := 3) (ls := [.int .i64, .int .i64, .int .i64]) 0 hv (Nat.le_refl 3) hK
theorem ldShQ_i {P : Program} {t g : Nat} [AggTy P t 3] {x : S.Shp} {C : World → Prop} {K : Int → Int → Int → Prop} (hv : ∀ w, C w → Var w g (shC x)) (hK : K x.s x.b x.d) :
    semQ P C (Instr.loadAt t (.pointer (some (at_ g 0)))) (.agg [(.int .i64), (.int .i64), (.int .i64)]) K :=
  ldVQ_i (n := 3) (ls := [.int .i64, .int .i64, .int .i64]) 0 hv (Nat.le_refl 3) hK
theorem ones_s {p : Nat} {K : Int → World → Prop} {w : World} (h2 : p ≤ 4096) (hK : K (S.ones p : Int) w) : callS Try.prog 44 #[.int .u64 (p : Int)] [.one (.int .i64)] K w := by
  refine f44_ok ?_
  unfold f44
  refine f56_ok ?_
  unfold f56
  have hp : p < S.q64 := Nat.lt_of_le_of_lt h2 (by decide)
  have e8 := S.on4_i (p := S.on3 (S.on2 (S.on1 p))) 8 (by omega) (S.lt_q (S.mod_lt _))
  have e16 := S.on4_i (p := S.on4 8 (S.on3 (S.on2 (S.on1 p)))) 16 (by omega) (S.mod_lt _)
  have e32 := S.on4_i (p := S.on4 16 (S.on4 8 (S.on3 (S.on2 (S.on1 p))))) 32 (by omega) (S.mod_lt _)
  rw [S.on1_i hp, S.on2_i (p := S.on1 p) (S.mod_lt _), S.on3_i (p := S.on2 (S.on1 p)) (S.mod_lt _)]
  rw [show ((8 : Nat) : Int) = 8 from rfl] at e8
  rw [show ((16 : Nat) : Int) = 16 from rfl] at e16
  rw [show ((32 : Nat) : Int) = 32 from rfl] at e32
  rw [e8, e16, e32]
  have e := S.on5_i (S.onesR_lt h2)
  show K (andI .i64 (IntKind.wrap .i64 (S.onesR p : Int)) 127) w
  rw [e]
  exact hK
theorem sRight_s {x : S.Shp} {K : Bool → World → Prop} {w : World} (hK : ∀ w', Ext w w' → K x.right w') : callS Try.prog 25 #[.agg #[.int .i64 x.s, .int .i64 x.b, .int .i64 x.d]] [.one .bool] K w := by
  refine f25_ok ?_
  unfold f25
  refine box_i fun g w1 e1 hg v1 => ?_
  have v1 : Var w1 g (shC x) := v1
  have L0 : ∀ {K : Int → World → Prop}, K x.s w1 → semS Try.prog (Instr.loadAt 3 (.pointer (some (at_ g 0)))) (.one (.int .i64)) K w1 := fun h => ld1_i (l := .int .i64) x.s v1 rfl h
  have L1 : ∀ {K : Int → World → Prop}, K x.b w1 → semS Try.prog (Instr.loadAt 3 (.pointer (some (at_ g 1)))) (.one (.int .i64)) K w1 := fun h => ld1_i (l := .int .i64) x.b v1 rfl h
  have L2 : ∀ {K : Int → World → Prop}, K x.d w1 → semS Try.prog (Instr.loadAt 3 (.pointer (some (at_ g 2)))) (.one (.int .i64)) K w1 := fun h => ld1_i (l := .int .i64) x.d v1 rfl h
  refine L0 ?_
  refine join_i (fun c w' => c = (decide (1 ≤ x.s) && decide (x.s ≤ 1099511627776)) ∧ w1 = w') ?_ fun J hJ =>
    cond_i (fun hc => L0 (hJ _ _ ⟨by rw [show decide (1 ≤ x.s) = true from hc, Bool.true_and], rfl⟩)) (fun hc => hJ _ _ ⟨by rw [show decide (1 ≤ x.s) = false from hc, Bool.false_and], rfl⟩)
  rintro c w' ⟨hc0, rfl⟩
  refine join_i (fun c' w' => c' = (c && (x.d == 32 || x.d == 64)) ∧ w1 = w') ?_ fun J hJ =>
    cond_i (fun hc => L2 (join_i (fun c' w' => c' = (x.d == 32 || x.d == 64) ∧ w1 = w') (fun c' w' h => hJ _ _ ⟨by rw [h.1, hc, Bool.true_and], h.2⟩) fun J2 hJ2 => cond_i (fun h => hJ2 _ _ ⟨by rw [h, Bool.true_or], rfl⟩) (fun h => L2 (hJ2 _ _ ⟨by rw [h, Bool.false_or], rfl⟩)))) (fun hc => hJ _ _ ⟨by rw [hc, Bool.false_and], rfl⟩)
  rintro c1 w' ⟨hc1, rfl⟩
  refine join_i (fun c' w' => c' = (c1 && decide (x.b ≥ 2 * x.d)) ∧ w1 = w') ?_ fun J hJ =>
    cond_i (fun hc => L1 (L2 (hJ _ _ ⟨?_, rfl⟩))) (fun hc => hJ _ _ ⟨by rw [hc, Bool.false_and], rfl⟩)
  rotate_left
  · rw [hc, Bool.true_and]
    have hd : x.d = 32 ∨ x.d = 64 := by
      rw [hc1, Bool.and_eq_true] at hc
      have := hc.2
      simpa using this
    rw [wrap_i64 (by omega) (by omega)]
  rintro c2 w' ⟨hc2, rfl⟩
  refine join_i (fun c' w' => c' = (c2 && decide (x.b ≤ 4096)) ∧ w1 = w') ?_ fun J hJ =>
    cond_i (fun hc => L1 (hJ _ _ ⟨by rw [hc, Bool.true_and], rfl⟩)) (fun hc => hJ _ _ ⟨by rw [hc, Bool.false_and], rfl⟩)
  rintro c3 w' ⟨hc3, rfl⟩
  have hpow : ∀ {p : Int}, p.toNat ∈ S.pows → p ≤ 4096 := fun {p} h => by
    simp only [S.pows, List.mem_cons, List.not_mem_nil, or_false] at h
    omega
  have hfin : x.right = (c2 && decide (x.b.toNat ∈ S.pows)) := by
    rw [hc2, hc1, hc0]; rfl
  refine join_i (fun c' w' => c' = x.right ∧ w1 = w') (fun c' w' h => by obtain ⟨rfl, rfl⟩ := h; exact hK _ e1) fun J hJ =>
    cond_i (fun hc => L1 ?_) (fun hc => hJ _ _ ⟨?_, rfl⟩)
  · rw [hc3, Bool.and_eq_true] at hc
    obtain ⟨h2, h3⟩ := hc
    have h3' := of_decide_eq_true h3
    have hbd : 64 ≤ x.b := by
      rw [hc2, hc1, Bool.and_eq_true, Bool.and_eq_true] at h2
      have h4 := of_decide_eq_true h2.2
      have h5 := h2.1.2
      have : x.d = 32 ∨ x.d = 64 := by simpa using h5
      omega
    rw [wrap_u64 (by omega) (by omega), show x.b = ((x.b.toNat : Nat) : Int) by omega]
    refine ones_s (by omega) (hJ _ _ ⟨?_, rfl⟩)
    rw [hfin, h2, Bool.true_and, ← S.ones_iff (by omega) (by omega)]
    exact beq1 _
  · rw [hfin]
    symm
    rw [Bool.eq_false_iff]
    intro h
    rw [Bool.and_eq_true] at h
    rw [hc3, h.1, Bool.true_and] at hc
    have := hpow (of_decide_eq_true h.2)
    have := of_decide_eq_false hc
    omega
theorem rRight_s {x : S.Shp} {K : Bool → World → Prop} {w : World} (hK : ∀ w', Ext w w' → K x.right w') : callS Try.prog 29 #[.agg #[.int .i64 x.s, .int .i64 x.b, .int .i64 x.d]] [.one .bool] K w := by
  refine f29_ok ?_
  unfold f29
  refine box_i fun g w1 e1 hg v1 => ?_
  have v1 : Var w1 g (shC x) := v1
  have L0 : ∀ {K : Int → World → Prop}, K x.s w1 → semS Try.prog (Instr.loadAt 3 (.pointer (some (at_ g 0)))) (.one (.int .i64)) K w1 := fun h => ld1_i (l := .int .i64) x.s v1 rfl h
  have L1 : ∀ {K : Int → World → Prop}, K x.b w1 → semS Try.prog (Instr.loadAt 3 (.pointer (some (at_ g 1)))) (.one (.int .i64)) K w1 := fun h => ld1_i (l := .int .i64) x.b v1 rfl h
  have L2 : ∀ {K : Int → World → Prop}, K x.d w1 → semS Try.prog (Instr.loadAt 3 (.pointer (some (at_ g 2)))) (.one (.int .i64)) K w1 := fun h => ld1_i (l := .int .i64) x.d v1 rfl h
  have hno : ∀ a b : Bool, (a = true ↔ ¬ b = true) → b = !a := fun a b h => by cases a <;> cases b <;> simp_all
  refine L0 ?_
  refine join_i (fun c w' => c = (!(decide (1 ≤ x.s) && decide (x.s ≤ 1099511627776))) ∧ w1 = w') ?_ fun J hJ =>
    cond_i (fun hc => hJ _ _ ⟨?_, rfl⟩) (fun hc => L0 (hJ _ _ ⟨?_, rfl⟩))
  rotate_left
  · have h1 : x.s < 1 := of_decide_eq_true hc
    rw [show decide (1 ≤ x.s) = false from decide_eq_false (by omega)]; rfl
  · have h1 : ¬ x.s < 1 := of_decide_eq_false hc
    rw [show decide (1 ≤ x.s) = true from decide_eq_true (by omega), Bool.true_and, ← decide_not]
    exact decide_eq_decide.2 (show x.s > 1099511627776 ↔ ¬ x.s ≤ 1099511627776 by omega)
  rintro c w' ⟨hc0, rfl⟩
  refine join_i (fun c' w' => c' = (c || !(x.d == 32 || x.d == 64)) ∧ w1 = w') ?_ fun J hJ =>
    cond_i (fun hc => hJ _ _ ⟨by rw [hc, Bool.true_or], rfl⟩) (fun hc => L2 (join_i (fun c' w' => c' = (!(x.d == 32 || x.d == 64)) ∧ w1 = w') (fun c' w' h => hJ _ _ ⟨by rw [h.1, hc, Bool.false_or], h.2⟩) fun J2 hJ2 =>
      cond_i (fun h => L2 (hJ2 _ _ ⟨by rw [show (x.d == 32) = false by simpa using h, Bool.false_or]; rfl, rfl⟩)) (fun h => hJ2 _ _ ⟨by rw [show (x.d == 32) = true by simpa using h, Bool.true_or]; rfl, rfl⟩)))
  rintro c1 w' ⟨hc1, rfl⟩
  refine join_i (fun c' w' => c' = (c1 || !decide (x.b ≥ 2 * x.d)) ∧ w1 = w') ?_ fun J hJ =>
    cond_i (fun hc => hJ _ _ ⟨by rw [hc, Bool.true_or], rfl⟩) (fun hc => L1 (L2 (hJ _ _ ⟨?_, rfl⟩)))
  rotate_left
  · rw [hc, Bool.false_or]
    have hd : x.d = 32 ∨ x.d = 64 := by
      rw [hc1, Bool.or_eq_false_iff] at hc
      have h5 : (x.d == 32 || x.d == 64) = true := not_f hc.2
      simpa using h5
    rw [wrap_i64 (by omega) (by omega), ← decide_not]
    exact decide_eq_decide.2 (show x.b < 2 * x.d ↔ ¬ x.b ≥ 2 * x.d by omega)
  rintro c2 w' ⟨hc2, rfl⟩
  have hfin : x.right = (!c2 && decide (x.b.toNat ∈ S.pows)) := by
    rw [hc2, hc1, hc0, not3]
    rfl
  refine cond_i (fun hc => ?_) (fun hc => ?_)
  · have := hK w1 e1
    rw [hfin, hc] at this; exact this
  rw [hc, Bool.not_false, Bool.true_and] at hfin
  have hge : 64 ≤ x.b := by
    rw [hc2, hc1, Bool.or_eq_false_iff, Bool.or_eq_false_iff] at hc
    have h4 : x.b ≥ 2 * x.d := by have := hc.2; simpa using this
    have h6 : (x.d == 32 || x.d == 64) = true := not_f hc.1.2
    have h5 : x.d = 32 ∨ x.d = 64 := by simpa using h6
    omega
  refine loop_i (fun (p : Int) w' => w' = w1 ∧ ∃ k : Nat, k ≤ 7 ∧ p = 64 * 2 ^ k ∧ ∀ q ∈ S.pows.take k, x.b.toNat ≠ q) (fun p _ => 8192 - p.toNat) ⟨rfl, 0, by omega, rfl, fun q h => by simp at h⟩ ?_
  rintro p w' again ⟨rfl, k, hk, hp, hq⟩ hag
  have hkc : k = 0 ∨ k = 1 ∨ k = 2 ∨ k = 3 ∨ k = 4 ∨ k = 5 ∨ k = 6 ∨ k = 7 := by omega
  refine cond_i (fun hlt => L1 ?_) (fun hge' => ?_)
  · have hp4 := of_decide_eq_true hlt
    have hk6 : k ≤ 6 := by
      rcases hkc with rfl | rfl | rfl | rfl | rfl | rfl | rfl | rfl
      all_goals first | omega | (exfalso; rw [hp] at hp4; exact absurd hp4 (by decide))
    have hpk : p.toNat ∈ S.pows ∧ p.toNat = S.pows.getD k 0 ∧ 0 < p := by
      rcases hkc with rfl | rfl | rfl | rfl | rfl | rfl | rfl | rfl
      all_goals first | (subst hp; exact ⟨by decide, by decide, by decide⟩) | omega
    refine cond_i (fun he => ?_) (fun hne => ?_)
    · have he' : x.b = p := by simpa using he
      have := hK w' e1
      rw [hfin, he', show decide (p.toNat ∈ S.pows) = true from decide_eq_true hpk.1] at this
      exact this
    · have hne' : x.b ≠ p := by simpa using hne
      refine hag _ _ ⟨rfl, k + 1, by omega, ?_, ?_⟩ ?_
      · rw [wrap_i64 (by omega) (by omega), hp, Int.pow_succ]; omega
      · intro q hqm
        have hlen : k < S.pows.length := by simp [S.pows]; omega
        rw [List.take_succ_eq_append_getElem hlen] at hqm
        rcases List.mem_append.1 hqm with h | h
        · exact hq q h
        · have hqe : q = S.pows[k]'hlen := by simpa using h
          have h2 := hpk.2.1
          rw [List.getD_eq_getElem?_getD, List.getElem?_eq_getElem hlen] at h2
          simp only [Option.getD_some] at h2
          rw [hqe, ← h2]
          have := hpk.2.2
          omega
      · have := hpk.2.2
        rw [wrap_i64 (by omega) (by omega)]; omega
  · have hp4 := of_decide_eq_false hge'
    have hk7 : k = 7 := by
      rcases hkc with rfl | rfl | rfl | rfl | rfl | rfl | rfl | rfl
      all_goals first | rfl | (exfalso; apply hp4; rw [hp]; decide)
    subst hk7
    have := hK w' e1
    rw [hfin, show decide (x.b.toNat ∈ S.pows) = false from decide_eq_false fun h => hq _ h rfl] at this
    exact this
end Go.Proofs.Ytgjbajjggmpmmaa
