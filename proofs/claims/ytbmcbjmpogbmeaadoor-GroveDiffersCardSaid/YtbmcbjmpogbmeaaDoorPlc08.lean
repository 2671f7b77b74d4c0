/- Plc08: put together by merge.py out of Plc08a Plc08b Plc08c Plc08d. -/
import Derived.Test.YtbmcbjmpogbmeaaDoorSh
import Derived.Test.YtbmcbjmpogbmeaaDoorTy
import Derived.Test.YtbmcbjmpogbmeaaDoorLib6
import Derived.Test.YtbmcbjmpogbmeaaDoorPure08
set_option linter.unusedSimpArgs false
set_option linter.unusedVariables false
/-! Plc08a -/
namespace Go.Proofs.YtbmcbjmpogbmeaaDoor
open Go Go.Eng
theorem not_f {b : Bool} (h : (!b) = false) : b = true := by cases b <;> simp_all
theorem not3 (a b c : Bool) : (!((!a || !b) || !c)) = (a && b && c) := by cases a <;> cases b <;> cases c <;> rfl
theorem beq1 (n : Nat) : ((n : Int) == 1) = (n == 1) := by
  rw [Bool.eq_iff_iff, beq_iff_eq, beq_iff_eq]
  omega
def shC (x : S.Shp) : List Value := [.int .i64 x.s, .int .i64 x.b, .int .i64 x.d]
theorem ldSh_i {P : Program} {t g : Nat} {w : World} [AggTy P t 3] {x : S.Shp} {K : Int → Int → Int → World → Prop} (hv : Var w g (shC x)) (hK : K x.s x.b x.d w) :
    semS P (Instr.loadAt t (.pointer (some (at_ g 0)))) (.agg [(.int .i64), (.int .i64), (.int .i64)]) K w :=
  ldV_i (n := 3) (ls := [.int .i64, .int .i64, .int .i64]) 0 hv (Nat.le_refl 3) hK
theorem ldShQ_i {P : Program} {t g : Nat} [AggTy P t 3] {x : S.Shp} {C : World → Prop} {K : Int → Int → Int → Prop} (hv : ∀ w, C w → Var w g (shC x)) (hK : K x.s x.b x.d) :
    semQ P C (Instr.loadAt t (.pointer (some (at_ g 0)))) (.agg [(.int .i64), (.int .i64), (.int .i64)]) K :=
  ldVQ_i (n := 3) (ls := [.int .i64, .int .i64, .int .i64]) 0 hv (Nat.le_refl 3) hK
theorem stSh_i {P : Program} {t g : Nat} {w : World} [AggTy P t 3] {x : S.Shp} {cs : List Value} {K : World → Prop} (hv : Var w g cs) (hl : cs.length = 3) (hK : ∀ w', Fr (fun k => k = g) w w' → Var w' g (shC x) → K w') :
    semU P (Instr.storeAt t (.pointer (some (at_ g 0))) (.agg #[.int .i64 x.s, .int .i64 x.b, .int .i64 x.d])) K w :=
  stV_i (n := 3) (vs := shC x) 0 hv rfl (by omega) (fun v hv => by simp only [shC, List.mem_cons, List.not_mem_nil, or_false] at hv; rcases hv with rfl | rfl | rfl <;> rfl) fun w' h1 h2 => hK w' h1 (by simpa [List.drop_of_length_le (Nat.le_of_eq hl)] using h2)
theorem ones_s {p : Nat} {K : Int → World → Prop} {w : World} (h2 : p ≤ 4096) (hK : K (S.ones p : Int) w) : callS Tryd.prog 60 #[.int .u64 (p : Int)] [.one (.int .i64)] K w := by
  refine f60_ok ?_
  unfold f60
  refine f74_ok ?_
  unfold f74
  have hp : p < S.q64 := Nat.lt_of_le_of_lt h2 (by decide)
  have e8 := S.on4_i (p := S.on3 (S.on2 (S.on1 p))) 8 (by omega) (S.lt_q (S.mod_lt _))
  have e16 := S.on4_i (p := S.on4 8 (S.on3 (S.on2 (S.on1 p)))) 16 (by omega) (S.mod_lt _)
  have e32 := S.on4_i (p := S.on4 16 (S.on4 8 (S.on3 (S.on2 (S.on1 p))))) 32 (by omega) (S.mod_lt _)
  rw [S.on1_i hp, S.on2_i (p := S.on1 p) (S.mod_lt _), S.on3_i (p := S.on2 (S.on1 p)) (S.mod_lt _)]
  rw [show ((8 : Nat) : Int) = 8 from rfl] at e8
  rw [show ((16 : Nat) : Int) = 16 from rfl] at e16
  rw [show ((32 : Nat) : Int) = 32 from rfl] at e32
  rw [e8, e16, e32]
  have e := S.on5_i (S.onesR_lt h2)
  show K (andI .i64 (IntKind.wrap .i64 (S.onesR p : Int)) 127) w
  rw [e]
  exact hK
theorem sRight_s {x : S.Shp} {K : Bool → World → Prop} {w : World} (hK : ∀ w', Ext w w' → K x.right w') : callS Tryd.prog 44 #[.agg #[.int .i64 x.s, .int .i64 x.b, .int .i64 x.d]] [.one .bool] K w := by
  refine f44_ok ?_
  unfold f44
  refine box_i fun g w1 e1 hg v1 => ?_
  have v1 : Var w1 g (shC x) := v1
  have L0 : ∀ {K : Int → World → Prop}, K x.s w1 → semS Tryd.prog (Instr.loadAt 3 (.pointer (some (at_ g 0)))) (.one (.int .i64)) K w1 := fun h => ld1_i (l := .int .i64) x.s v1 rfl h
  have L1 : ∀ {K : Int → World → Prop}, K x.b w1 → semS Tryd.prog (Instr.loadAt 3 (.pointer (some (at_ g 1)))) (.one (.int .i64)) K w1 := fun h => ld1_i (l := .int .i64) x.b v1 rfl h
  have L2 : ∀ {K : Int → World → Prop}, K x.d w1 → semS Tryd.prog (Instr.loadAt 3 (.pointer (some (at_ g 2)))) (.one (.int .i64)) K w1 := fun h => ld1_i (l := .int .i64) x.d v1 rfl h
  refine L0 ?_
  refine join_i (fun c w' => c = (decide (1 ≤ x.s) && decide (x.s ≤ 1099511627776)) ∧ w1 = w') ?_ fun J hJ =>
    cond_i (fun hc => L0 (hJ _ _ ⟨by rw [show decide (1 ≤ x.s) = true from hc, Bool.true_and], rfl⟩)) (fun hc => hJ _ _ ⟨by rw [show decide (1 ≤ x.s) = false from hc, Bool.false_and], rfl⟩)
  rintro c w' ⟨hc0, rfl⟩
  refine join_i (fun c' w' => c' = (c && (x.d == 32 || x.d == 64)) ∧ w1 = w') ?_ fun J hJ =>
    cond_i (fun hc => L2 (join_i (fun c' w' => c' = (x.d == 32 || x.d == 64) ∧ w1 = w') (fun c' w' h => hJ _ _ ⟨by rw [h.1, hc, Bool.true_and], h.2⟩) fun J2 hJ2 => cond_i (fun h => hJ2 _ _ ⟨by rw [h, Bool.true_or], rfl⟩) (fun h => L2 (hJ2 _ _ ⟨by rw [h, Bool.false_or], rfl⟩)))) (fun hc => hJ _ _ ⟨by rw [hc, Bool.false_and], rfl⟩)
  rintro c1 w' ⟨hc1, rfl⟩
  refine join_i (fun c' w' => c' = (c1 && decide (x.b ≥ 2 * x.d)) ∧ w1 = w') ?_ fun J hJ =>
    cond_i (fun hc => L1 (L2 (hJ _ _ ⟨?_, rfl⟩))) (fun hc => hJ _ _ ⟨by rw [hc, Bool.false_and], rfl⟩)
  rotate_left
  · rw [hc, Bool.true_and]
    have hd : x.d = 32 ∨ x.d = 64 := by
      rw [hc1, Bool.and_eq_true] at hc
      have := hc.2
      simpa using this
    rw [wrap_i64 (by omega) (by omega)]
  rintro c2 w' ⟨hc2, rfl⟩
  refine join_i (fun c' w' => c' = (c2 && decide (x.b ≤ 4096)) ∧ w1 = w') ?_ fun J hJ =>
    cond_i (fun hc => L1 (hJ _ _ ⟨by rw [hc, Bool.true_and], rfl⟩)) (fun hc => hJ _ _ ⟨by rw [hc, Bool.false_and], rfl⟩)
  rintro c3 w' ⟨hc3, rfl⟩
  have hpow : ∀ {p : Int}, p.toNat ∈ S.pows → p ≤ 4096 := fun {p} h => by
    simp only [S.pows, List.mem_cons, List.not_mem_nil, or_false] at h
    omega
  have hfin : x.right = (c2 && decide (x.b.toNat ∈ S.pows)) := by
    rw [hc2, hc1, hc0]; rfl
  refine join_i (fun c' w' => c' = x.right ∧ w1 = w') (fun c' w' h => by obtain ⟨rfl, rfl⟩ := h; exact hK _ e1) fun J hJ =>
    cond_i (fun hc => L1 ?_) (fun hc => hJ _ _ ⟨?_, rfl⟩)
  · rw [hc3, Bool.and_eq_true] at hc
    obtain ⟨h2, h3⟩ := hc
    have h3' := of_decide_eq_true h3
    have hbd : 64 ≤ x.b := by
      rw [hc2, hc1, Bool.and_eq_true, Bool.and_eq_true] at h2
      have h4 := of_decide_eq_true h2.2
      have h5 := h2.1.2
      have : x.d = 32 ∨ x.d = 64 := by simpa using h5
      omega
    rw [wrap_u64 (by omega) (by omega), show x.b = ((x.b.toNat : Nat) : Int) by omega]
    refine ones_s (by omega) (hJ _ _ ⟨?_, rfl⟩)
    rw [hfin, h2, Bool.true_and, ← S.ones_iff (by omega) (by omega)]
    exact beq1 _
  · rw [hfin]
    symm
    rw [Bool.eq_false_iff]
    intro h
    rw [Bool.and_eq_true] at h
    rw [hc3, h.1, Bool.true_and] at hc
    have := hpow (of_decide_eq_true h.2)
    have := of_decide_eq_false hc
    omega
theorem rRight_s {x : S.Shp} {K : Bool → World → Prop} {w : World} (hK : ∀ w', Ext w w' → K x.right w') : callS Tryd.prog 26 #[.agg #[.int .i64 x.s, .int .i64 x.b, .int .i64 x.d]] [.one .bool] K w := by
  refine f26_ok ?_
  unfold f26
  refine box_i fun g w1 e1 hg v1 => ?_
  have v1 : Var w1 g (shC x) := v1
  have L0 : ∀ {K : Int → World → Prop}, K x.s w1 → semS Tryd.prog (Instr.loadAt 3 (.pointer (some (at_ g 0)))) (.one (.int .i64)) K w1 := fun h => ld1_i (l := .int .i64) x.s v1 rfl h
  have L1 : ∀ {K : Int → World → Prop}, K x.b w1 → semS Tryd.prog (Instr.loadAt 3 (.pointer (some (at_ g 1)))) (.one (.int .i64)) K w1 := fun h => ld1_i (l := .int .i64) x.b v1 rfl h
  have L2 : ∀ {K : Int → World → Prop}, K x.d w1 → semS Tryd.prog (Instr.loadAt 3 (.pointer (some (at_ g 2)))) (.one (.int .i64)) K w1 := fun h => ld1_i (l := .int .i64) x.d v1 rfl h
  have hno : ∀ a b : Bool, (a = true ↔ ¬ b = true) → b = !a := fun a b h => by cases a <;> cases b <;> simp_all
  refine L0 ?_
  refine join_i (fun c w' => c = (!(decide (1 ≤ x.s) && decide (x.s ≤ 1099511627776))) ∧ w1 = w') ?_ fun J hJ =>
    cond_i (fun hc => hJ _ _ ⟨?_, rfl⟩) (fun hc => L0 (hJ _ _ ⟨?_, rfl⟩))
  rotate_left
  · have h1 : x.s < 1 := of_decide_eq_true hc
    rw [show decide (1 ≤ x.s) = false from decide_eq_false (by omega)]; rfl
  · have h1 : ¬ x.s < 1 := of_decide_eq_false hc
    rw [show decide (1 ≤ x.s) = true from decide_eq_true (by omega), Bool.true_and, ← decide_not]
    exact decide_eq_decide.2 (show x.s > 1099511627776 ↔ ¬ x.s ≤ 1099511627776 by omega)
  rintro c w' ⟨hc0, rfl⟩
  refine join_i (fun c' w' => c' = (c || !(x.d == 32 || x.d == 64)) ∧ w1 = w') ?_ fun J hJ =>
    cond_i (fun hc => hJ _ _ ⟨by rw [hc, Bool.true_or], rfl⟩) (fun hc => L2 (join_i (fun c' w' => c' = (!(x.d == 32 || x.d == 64)) ∧ w1 = w') (fun c' w' h => hJ _ _ ⟨by rw [h.1, hc, Bool.false_or], h.2⟩) fun J2 hJ2 =>
      cond_i (fun h => L2 (hJ2 _ _ ⟨by rw [show (x.d == 32) = false by simpa using h, Bool.false_or]; rfl, rfl⟩)) (fun h => hJ2 _ _ ⟨by rw [show (x.d == 32) = true by simpa using h, Bool.true_or]; rfl, rfl⟩)))
  rintro c1 w' ⟨hc1, rfl⟩
  refine join_i (fun c' w' => c' = (c1 || !decide (x.b ≥ 2 * x.d)) ∧ w1 = w') ?_ fun J hJ =>
    cond_i (fun hc => hJ _ _ ⟨by rw [hc, Bool.true_or], rfl⟩) (fun hc => L1 (L2 (hJ _ _ ⟨?_, rfl⟩)))
  rotate_left
  · rw [hc, Bool.false_or]
    have hd : x.d = 32 ∨ x.d = 64 := by
      rw [hc1, Bool.or_eq_false_iff] at hc
      have h5 : (x.d == 32 || x.d == 64) = true := not_f hc.2
      simpa using h5
    rw [wrap_i64 (by omega) (by omega), ← decide_not]
    exact decide_eq_decide.2 (show x.b < 2 * x.d ↔ ¬ x.b ≥ 2 * x.d by omega)
  rintro c2 w' ⟨hc2, rfl⟩
  have hfin : x.right = (!c2 && decide (x.b.toNat ∈ S.pows)) := by
    rw [hc2, hc1, hc0, not3]
    rfl
  refine cond_i (fun hc => ?_) (fun hc => ?_)
  · have := hK w1 e1
    rw [hfin, hc] at this; exact this
  rw [hc, Bool.not_false, Bool.true_and] at hfin
  have hge : 64 ≤ x.b := by
    rw [hc2, hc1, Bool.or_eq_false_iff, Bool.or_eq_false_iff] at hc
    have h4 : x.b ≥ 2 * x.d := by have := hc.2; simpa using this
    have h6 : (x.d == 32 || x.d == 64) = true := not_f hc.1.2
    have h5 : x.d = 32 ∨ x.d = 64 := by simpa using h6
    omega
  refine loop_i (fun (p : Int) w' => w' = w1 ∧ ∃ k : Nat, k ≤ 7 ∧ p = 64 * 2 ^ k ∧ ∀ q ∈ S.pows.take k, x.b.toNat ≠ q) (fun p _ => 8192 - p.toNat) ⟨rfl, 0, by omega, rfl, fun q h => by simp at h⟩ ?_
  rintro p w' again ⟨rfl, k, hk, hp, hq⟩ hag
  have hkc : k = 0 ∨ k = 1 ∨ k = 2 ∨ k = 3 ∨ k = 4 ∨ k = 5 ∨ k = 6 ∨ k = 7 := by omega
  refine cond_i (fun hlt => L1 ?_) (fun hge' => ?_)
  · have hp4 := of_decide_eq_true hlt
    have hk6 : k ≤ 6 := by
      rcases hkc with rfl | rfl | rfl | rfl | rfl | rfl | rfl | rfl
      all_goals first | omega | (exfalso; rw [hp] at hp4; exact absurd hp4 (by decide))
    have hpk : p.toNat ∈ S.pows ∧ p.toNat = S.pows.getD k 0 ∧ 0 < p := by
      rcases hkc with rfl | rfl | rfl | rfl | rfl | rfl | rfl | rfl
      all_goals first | (subst hp; exact ⟨by decide, by decide, by decide⟩) | omega
    refine cond_i (fun he => ?_) (fun hne => ?_)
    · have he' : x.b = p := by simpa using he
      have := hK w' e1
      rw [hfin, he', show decide (p.toNat ∈ S.pows) = true from decide_eq_true hpk.1] at this
      exact this
    · have hne' : x.b ≠ p := by simpa using hne
      refine hag _ _ ⟨rfl, k + 1, by omega, ?_, ?_⟩ ?_
      · rw [wrap_i64 (by omega) (by omega), hp, Int.pow_succ]; omega
      · intro q hqm
        have hlen : k < S.pows.length := by simp [S.pows]; omega
        rw [List.take_succ_eq_append_getElem hlen] at hqm
        rcases List.mem_append.1 hqm with h | h
        · exact hq q h
        · have hqe : q = S.pows[k]'hlen := by simpa using h
          have h2 := hpk.2.1
          rw [List.getD_eq_getElem?_getD, List.getElem?_eq_getElem hlen] at h2
          simp only [Option.getD_some] at h2
          rw [hqe, ← h2]
          have := hpk.2.2
          omega
      · have := hpk.2.2
        rw [wrap_i64 (by omega) (by omega)]; omega
  · have hp4 := of_decide_eq_false hge'
    have hk7 : k = 7 := by
      rcases hkc with rfl | rfl | rfl | rfl | rfl | rfl | rfl | rfl
      all_goals first | rfl | (exfalso; apply hp4; rw [hp]; decide)
    subst hk7
    have := hK w' e1
    rw [hfin, show decide (x.b.toNat ∈ S.pows) = false from decide_eq_false fun h => hq _ h rfl] at this
    exact this
end Go.Proofs.YtbmcbjmpogbmeaaDoor

/-! Plc08b -/
namespace Go.S
open Go Go.Eng
theorem up_i {n a : Nat} (hn : n ≤ 2199023255552) (ha : 1 ≤ a) (ha2 : a ≤ 4096) : IntKind.wrap .i64 (Int.tdiv (IntKind.wrap .i64 (IntKind.wrap .i64 ((n : Int) + (a : Int)) - 1)) (a : Int)) = (up n a : Int) := by
  rw [wrap_i64 (x := (n : Int) + a) (by omega) (by omega), wrap_i64 (x := (n : Int) + a - 1) (by omega) (by omega), Int.tdiv_eq_ediv_of_nonneg (by omega), show (n : Int) + a - 1 = ((n + a - 1 : Nat) : Int) by omega, ← Int.natCast_ediv]
  have h : (n + a - 1) / a ≤ n + a - 1 := Nat.div_le_self _ _
  show IntKind.wrap .i64 (((n + a - 1) / a : Nat) : Int) = (((n + a - 1) / a : Nat) : Int)
  generalize (n + a - 1) / a = q at h ⊢
  exact wrap_i64 (by omega) (by omega)
theorem up_def {n a : Nat} (ha : 1 ≤ a) : up n a = if n % a = 0 then n / a else n / a + 1 := by
  unfold up
  have h := Nat.div_add_mod n a
  have hr := Nat.mod_lt n (show a > 0 by omega)
  generalize n / a = q at h ⊢
  generalize n % a = r at h hr ⊢
  subst h
  by_cases h0 : r = 0
  · rw [if_pos h0, h0, show a * q + 0 + a - 1 = a * q + (a - 1) by omega, Nat.mul_add_div (by omega), Nat.div_eq_of_lt (by omega)]; rfl
  · rw [if_neg h0, show a * q + r + a - 1 = a * q + (a + (r - 1)) by omega, Nat.mul_add_div (by omega), show a + (r - 1) = a * 1 + (r - 1) by omega, Nat.mul_add_div (by omega), Nat.div_eq_of_lt (a := r - 1) (by omega)]
theorem tdiv_n (n a : Nat) : Int.tdiv (n : Int) (a : Int) = ((n / a : Nat) : Int) := by
  rw [Int.tdiv_eq_ediv_of_nonneg (by omega), ← Int.natCast_ediv]
theorem tmod_n (n a : Nat) : Int.tmod (n : Int) (a : Int) = ((n % a : Nat) : Int) := by
  rw [Int.tmod_eq_emod_of_nonneg (by omega), ← Int.natCast_emod]
end Go.S
namespace Go.Proofs.YtbmcbjmpogbmeaaDoor
open Go Go.Eng
def vI (n : Nat) : Value := .int .i64 (n : Int)
theorem vI_one {l : List Nat} : ∀ v ∈ l.map vI, v.oneCell' = true := fun v hv => by obtain ⟨x, _, rfl⟩ := List.mem_map.1 hv; rfl
section
variable {x : S.Shp}
theorem wrap_nat {n : Nat} (h : n ≤ 9223372036854775807) : IntKind.wrap .i64 (n : Int) = (n : Int) := wrap_i64 (by omega) (by omega)
theorem aN_i (o : x.Ok) : IntKind.wrap .i64 (Int.tdiv x.b x.d) = (x.aN : Int) := by
  rw [o.b, o.d, S.tdiv_n]
  have h : x.bN / x.dN ≤ x.bN := Nat.div_le_self _ _
  have h2 := o.b2
  exact wrap_nat (by omega)
theorem arity_s {K : Int → World → Prop} {w : World} (o : x.Ok) (hK : ∀ w', Ext w w' → K (x.aN : Int) w') : callS Tryd.prog 59 #[.agg #[.int .i64 x.s, .int .i64 x.b, .int .i64 x.d]] [.one (.int .i64)] K w := by
  refine f59_ok ?_
  unfold f59
  refine box_i fun g w1 e1 hg v1 => ?_
  have v1 : Var w1 g (shC x) := v1
  refine ld1_i (l := .int .i64) (o := 1) x.b v1 rfl ?_
  refine ld1_i (l := .int .i64) (o := 2) x.d v1 rfl ?_
  have hd := o.dd
  refine quo_i (by rw [o.d]; omega) ?_
  rw [aN_i o]
  exact hK w1 e1
/-- The levels up to one, as they are listed. -/
def csTo (x : S.Shp) (k : Nat) : List Nat := (List.range (k + 1)).map x.c
theorem csTo_h : csTo x x.h = x.cs := rfl
theorem csTo_succ (k : Nat) : csTo x (k + 1) = csTo x k ++ [x.c (k + 1)] := by
  unfold csTo
  rw [List.range_succ (n := k + 1), List.map_append]; rfl
theorem csTo_len (k : Nat) : (csTo x k).length = k + 1 := by simp [csTo]
theorem counts_s {K : Sl → World → Prop} {w : World} (o : x.Ok) (hK : ∀ v w', Ext w w' → Own w' w.heap.size v 1 (x.cs.map vI) → K v w') :
    callS Tryd.prog 55 #[.agg #[.int .i64 x.s, .int .i64 x.b, .int .i64 x.d]] [.one .slc] K w := by
  refine f55_ok ?_
  unfold f55
  refine box_i fun g w1 e1 hg v1 => ?_
  have v1 : Var w1 g (shC x) := v1
  have hgl := v1.lt
  refine ld1_i (l := .int .i64) (o := 0) x.s v1 rfl ?_
  refine ld1_i (l := .int .i64) (o := 1) x.b v1 rfl ?_
  refine ld1_i (l := .int .i64) (o := 1) x.b v1 rfl ?_
  have hb1 := o.b1
  have hb2 := o.b2
  have hs2 := o.s2
  have ha1 := o.a1
  have ha2 := o.a2
  refine quo_i (by rw [o.b]; omega) ?_
  rw [show IntKind.wrap .i64 (Int.tdiv (IntKind.wrap .i64 (IntKind.wrap .i64 (x.s + x.b) - 1)) x.b) = (x.c 0 : Int) by rw [o.s, o.b]; exact S.up_i (by omega) (by omega) hb2]
  refine buildV_i [vI (x.c 0)] rfl (fun v hv => by rw [List.mem_singleton.1 hv]; exact ⟨rfl, rfl⟩) rfl (by decide) fun v w2 e2 o2 => ?_
  refine loop_i (fun (st : Int × Sl) w' => ∃ k, k ≤ x.h ∧ st.1 = (x.c k : Int) ∧ Ext w1 w' ∧ Own w' w1.heap.size st.2 1 ((csTo x k).map vI)) (fun st _ => st.1.toNat) ⟨0, by omega, rfl, e2, o2⟩ ?_
  rintro ⟨n, s⟩ w3 again ⟨k, hk, hn, e3, o3⟩ hag
  dsimp only at hn o3 ⊢
  subst hn
  have hcm := S.Shp.c_max o k
  refine cond_i (fun hgt => ?_) (fun hle => ?_)
  · have hgt' : 1 < x.c k := by have := of_decide_eq_true hgt; omega
    have hkh : k < x.h := by
      apply Classical.byContradiction
      intro hn
      have := (S.Shp.h_iff o (k := k)).2 (by omega)
      omega
    have v3 := v1.ext e3
    have hd := Ext.drew w3
    refine ⟨fun y => Ext w3 y, hd, ?_⟩
    refine ldShQ_i (x := x) (fun y hy => v3.ext hy) ?_
    refine ldShQ_i (x := x) (fun y hy => v3.ext hy) ?_
    refine arity_s o fun w4 e4 => ?_
    refine more_i (hd.trans e4) ?_
    refine arity_s o fun w5 e5 => ?_
    refine more_i ((hd.trans e4).trans e5) ?_
    refine quoQ_i (by omega) ?_
    rw [S.up_i (n := x.c k) (by omega) (by omega) (by omega)]
    have e35 := (hd.trans e4).trans e5
    refine append1V_i (vI (x.c (k + 1))) rfl rfl (o3.ext e35) (by have := o3.len; simp [csTo_len] at this; have := S.Shp.h_le o; omega) (by have := (e3.trans e35).size; omega) fun v w6 f6 o6 hin => ?_
    refine hag _ w6 ⟨k + 1, by omega, rfl, Ext.own (e3.trans e35) f6 fun i hi => (o3.inB hi).1, ?_⟩ ?_
    · rw [csTo_succ, List.map_append]; exact o6
    · have := S.Shp.c_lt o hgt'
      show ((x.c (k + 1) : Nat) : Int).toNat < ((x.c k : Nat) : Int).toNat
      omega
  · have hle' : x.c k ≤ 1 := by have := of_decide_eq_false hle; omega
    have hkh : k = x.h := by have := (S.Shp.h_iff o).1 hle'; omega
    subst hkh
    exact hK s w3 (e1.trans e3) (Own.base o3 e1.size)
/-- A list of numbers added up. -/
theorem sumL_s {w : World} {s : Sl} {l : List Nat} {a0 i0 : Nat} {R : Int × Int → World → Prop} (hx : Rd w s 1 (l.map vI)) (hl : l.length ≤ 64) (hm : ∀ y ∈ l, y ≤ 17179869184) (ha : a0 ≤ 1099511627776) (hi0 : i0 ≤ l.length)
    (hR : R (((a0 + (l.drop i0).sum : Nat) : Int), (l.length : Int)) w) :
    loopS (σ := Int × Int) (fun s11 w again12 =>
      cond (decide (s11.2 < (s.len : Int)))
        (semS Tryd.prog (Instr.indexAt 49 (.slice s.a s.len s.cap) (.int .i64 s11.2)) (.one .adr) (fun x13 w =>
        semS Tryd.prog (Instr.loadAt 3 (.pointer (some x13))) (.one (.int .i64)) (fun x14 w =>
        again12 (IntKind.wrap .i64 (s11.1 + x14), IntKind.wrap .i64 (s11.2 + 1)) w) w) w)
        (R s11 w)) ((a0 : Int), (i0 : Int)) w := by
  have hsl : s.len = l.length := by have := hx.len; simp at this; omega
  refine loop_i (fun (st : Int × Int) w' => w' = w ∧ ∃ (i acc : Nat), i ≤ l.length ∧ st = ((acc : Int), (i : Int)) ∧ acc + (l.drop i).sum = a0 + (l.drop i0).sum) (fun st _ => l.length - st.2.toNat) ⟨rfl, i0, a0, hi0, rfl, rfl⟩ ?_
  rintro st w' again ⟨rfl, i, acc, hi, rfl, hacc⟩ hag
  dsimp only
  have hsum : (l.drop i0).sum ≤ 1099511627776 := by
    have h1 := S.Shp.sum_le (l := l.drop i0) (m := 17179869184) fun y hy => hm y (List.mem_of_mem_drop hy)
    have h2 := Nat.mul_le_mul_right 17179869184 (show (l.drop i0).length ≤ 64 by rw [List.length_drop]; omega)
    omega
  refine cond_i (fun hlt => ?_) (fun hge => ?_)
  · have hi' : i < l.length := by have := of_decide_eq_true hlt; omega
    have hd : l.drop i = l[i] :: l.drop (i + 1) := List.drop_eq_getElem_cons hi'
    rw [hd, List.sum_cons] at hacc
    refine elem_i (l := .int .i64) (x := (l[i] : Int)) hx (by omega) (by omega) (by rw [Int.toNat_natCast, List.getElem?_map, List.getElem?_eq_getElem hi']; rfl) ?_
    rw [wrap_i64 (x := (acc : Int) + (l[i] : Int)) (by omega) (by omega), wrap_i64 (x := (i : Int) + 1) (by omega) (by omega)]
    refine hag _ _ ⟨rfl, i + 1, acc + l[i], by omega, ?_, by omega⟩ ?_
    · rw [Int.natCast_add, Int.natCast_add]; rfl
    · show l.length - ((i : Int) + 1).toNat < l.length - ((i : Int)).toNat
      omega
  · have hi' : i = l.length := by have := of_decide_eq_false hge; omega
    subst hi'
    rw [List.drop_length, List.sum_nil, Nat.add_zero] at hacc
    rw [hacc]; exact hR
theorem mulB_i (o : x.Ok) {n : Nat} (hn : n ≤ 2199023255552) : IntKind.wrap .i64 ((n : Int) * x.b) = ((n * x.bN : Nat) : Int) := by
  have h := Nat.mul_le_mul hn o.b2
  rw [o.b, ← Int.natCast_mul]
  exact wrap_nat (by omega)
theorem rup_s {n a : Nat} {K : Int → World → Prop} {w : World} (hn : n ≤ 1099511627776) (ha : 1 ≤ a) (hK : K (S.up n a : Int) w) : callS Tryd.prog 39 #[.int .i64 (n : Int), .int .i64 (a : Int)] [.one (.int .i64)] K w := by
  refine f39_ok ?_
  unfold f39
  refine rem_i (by omega) ?_
  have hq : n / a ≤ n := Nat.div_le_self _ _
  rw [S.tmod_n]
  refine cond_i (fun h => ?_) (fun h => ?_)
  · have h0 : n % a = 0 := by have h1 : ((n % a : Nat) : Int) = 0 := by simpa using h
                              omega
    refine quo_i (by omega) ?_
    rw [S.tdiv_n, wrap_nat (by omega)]
    rw [S.up_def ha, if_pos h0] at hK; exact hK
  · have h0 : n % a ≠ 0 := by
      intro h1
      rw [h1] at h
      simp at h
    refine quo_i (by omega) ?_
    rw [S.tdiv_n, wrap_nat (by omega), show ((n / a : Nat) : Int) + 1 = ((n / a + 1 : Nat) : Int) by omega, wrap_nat (by omega)]
    rw [S.up_def ha, if_neg h0] at hK; exact hK
theorem rCounts_s {K : Sl → World → Prop} {w : World} (o : x.Ok) (hK : ∀ v w', Ext w w' → Own w' w.heap.size v 1 (x.cs.map vI) → K v w') :
    callS Tryd.prog 22 #[.agg #[.int .i64 x.s, .int .i64 x.b, .int .i64 x.d]] [.one .slc] K w := by
  refine f22_ok ?_
  unfold f22
  refine box_i fun g w1 e1 hg v1 => ?_
  have v1 : Var w1 g (shC x) := v1
  have hgl := v1.lt
  refine ld1_i (l := .int .i64) (o := 0) x.s v1 rfl ?_
  refine ld1_i (l := .int .i64) (o := 1) x.b v1 rfl ?_
  have hb1 := o.b1
  have hb2 := o.b2
  have hs2 := o.s2
  have ha1 := o.a1
  have ha2 := o.a2
  have hup := rup_s (w := w1) (n := x.sN) (a := x.bN) hs2 (by omega) (K := ?_) ?_
  rw [← o.s, ← o.b] at hup
  exact hup
  refine buildV_i [vI (x.c 0)] rfl (fun v hv => by rw [List.mem_singleton.1 hv]; exact ⟨rfl, rfl⟩) rfl (by decide) fun v w2 e2 o2 => ?_
  refine loop_i (fun (st : Int × Sl) w' => ∃ k, k ≤ x.h ∧ st.1 = (x.c k : Int) ∧ Ext w1 w' ∧ Own w' w1.heap.size st.2 1 ((csTo x k).map vI)) (fun st _ => st.1.toNat) ⟨0, by omega, rfl, e2, o2⟩ ?_
  rintro ⟨n, s⟩ w3 again ⟨k, hk, hn, e3, o3⟩ hag
  dsimp only at hn o3 ⊢
  subst hn
  have hcm := S.Shp.c_max o k
  refine cond_i (fun hgt => ?_) (fun hle => ?_)
  · have hgt' : 1 < x.c k := by have := of_decide_eq_true hgt; omega
    have hkh : k < x.h := by
      apply Classical.byContradiction
      intro hn
      have := (S.Shp.h_iff o (k := k)).2 (by omega)
      omega
    have v3 := v1.ext e3
    refine ld1_i (l := .int .i64) (o := 1) x.b v3 rfl ?_
    refine ld1_i (l := .int .i64) (o := 2) x.d v3 rfl ?_
    have hd := o.dd
    refine quo_i (by rw [o.d]; omega) ?_
    rw [aN_i o]
    refine rup_s (n := x.c k) (a := x.aN) (by omega) (by omega) ?_
    refine append1V_i (vI (x.c (k + 1))) rfl rfl o3 (by have := o3.len; simp [csTo_len] at this; have := S.Shp.h_le o; omega) (by have := e3.size; omega) fun v w6 f6 o6 hin => ?_
    refine hag _ w6 ⟨k + 1, by omega, rfl, Ext.own e3 f6 fun i hi => (o3.inB hi).1, ?_⟩ ?_
    · rw [csTo_succ, List.map_append]; exact o6
    · have := S.Shp.c_lt o hgt'
      show ((x.c (k + 1) : Nat) : Int).toNat < ((x.c k : Nat) : Int).toNat
      omega
  · have hle' : x.c k ≤ 1 := by have := of_decide_eq_false hle; omega
    have hkh : k = x.h := by have := (S.Shp.h_iff o).1 hle'; omega
    subst hkh
    exact hK s w3 (e1.trans e3) (Own.base o3 e1.size)
end
end Go.Proofs.YtbmcbjmpogbmeaaDoor

/-! Plc08c -/
namespace Go.Eng
open Go
theorem slClip_i {P : Program} {w : World} {t e sz : Nat} {z : Value} [h : SliceTy P t e sz z] {s : Sl} {K : Sl → World → Prop} (hc : s.len ≤ s.cap) (hK : K (s.cut3 sz 0 s.len s.len) w) :
    semS P (Instr.sliceAt t (.slice s.a s.len s.cap) none (some (.int .i64 (s.len : Int))) (some (.int .i64 (s.len : Int)))) (.one .slc) K w := by
  refine ⟨Lf.enc .slc (s.cut3 sz 0 s.len s.len), w, ?_, one_dec (l := .slc) hK⟩
  have hb : ∀ c, (Instr.sliceBound (.int .i64 (s.len : Int)) s.cap c).run P w = .ok s.len w := fun c => by have := run_sliceBound (P := P) (w := w) (k := .i64) (i := (s.len : Int)) (y := s.cap) (c := c) (by omega) (by omega); rwa [Int.toNat_natCast] at this
  have hb1 : ∀ c, (Instr.sliceBound (.int .i64 (s.len : Int)) s.len c).run P w = .ok s.len w := fun c => by have := run_sliceBound (P := P) (w := w) (k := .i64) (i := (s.len : Int)) (y := s.len) (c := c) (by omega) (by omega); rwa [Int.toNat_natCast] at this
  simp [Instr.sliceAt, Instr.slice, run_underlying h.und, Instr.sliceBounds, hb, hb1, sizeOf_elem (t := t) (sz := sz), Sl.cut3, Lf.enc]
theorem Rd.clip {w : World} {s : Sl} {sz : Nat} {cs : List Value} (h : Rd w s sz cs) : Rd w (s.cut3 sz 0 s.len s.len) sz cs := by
  refine ⟨h.len, Nat.le_refl _, fun hn => ?_, fun b hb i v hv => ?_⟩
  · have h0 : s.len = 0 := by
      have : s.a = none := by
        by_cases h0 : s.len = 0
        · simpa [Sl.cut3, h0] using hn
        · simpa [Sl.cut3, h0] using hn
      exact (h.nil this).1
    exact ⟨h0, h0⟩
  · by_cases h0 : s.len = 0
    · have := h.len
      rw [h0, Nat.zero_mul] at this
      rw [List.length_eq_zero_iff.1 this] at hv
      cases hv
    · have hb' : s.a.map (·.add (0 * sz)) = Option.some b := by simpa [Sl.cut3, h0] using hb
      obtain ⟨a, ha, rfl⟩ := Option.map_eq_some_iff.1 hb'
      rw [add_add', Nat.zero_mul, Nat.zero_add]
      exact h.cells a ha i v hv
end Go.Eng
namespace Go.Proofs.YtbmcbjmpogbmeaaDoor
open Go Go.Eng
/-- A place as a complex number. -/
abbrev cz (i l : Nat) : Cx := ⟨fw i, fw l⟩
def vC (i l : Nat) : Value := .complex .f64 (fw i) (fw l)
theorem fwMax : fw 1099511627776 = 4787326403894837248 := by decide +kernel
theorem isWMax : IsW 4787326403894837248 1099511627776 := by rw [← fwMax]; exact isW_fw (by decide)
section
variable {x : S.Shp}
theorem parts_s {i l : Nat} {K : Int → Int → Int → World → Prop} {w : World} (o : x.Ok) (hi : i < 2 ^ 53) (hl : l < 2 ^ 53) (hBad : ¬ (l ≤ x.h ∧ i < x.c l) → ∀ w', Ext w w' → K 0 0 13 w') (hOk : l ≤ x.h → i < x.c l → ∀ w', Ext w w' → K (i : Int) (l : Int) 0 w') :
    callS Tryd.prog 58 #[.agg #[.int .i64 x.s, .int .i64 x.b, .int .i64 x.d], .complex .f64 (fw i) (fw l)] [.one (.int .i64), .one (.int .i64), .one (.int .i64)] K w := by
  refine f58_ok (p1 := cz i l) ?_
  unfold f58
  refine box_i fun g w1 e1 hg v1 => ?_
  have v1 : Var w1 g (shC x) := v1
  refine ldSh_i v1 ?_
  refine counts_s o fun v w2 e2 o2 => ?_
  have hvl : v.len = x.h + 1 := by have := o2.len; simp [S.Shp.cs_len] at this; omega
  have hh := S.Shp.h_le o
  have e12 := e1.trans e2
  dsimp only
  have hv53 : v.len < 2 ^ 53 := Nat.lt_of_le_of_lt (show v.len ≤ 35 by omega) (by decide)
  rw [ge_W (isW_fw hi) isW0, le_W (isW_fw hi) isWMax, ge_W (isW_fw hl) isW0, show FloatKind.nearest .f64 (v.len : Int) = fw v.len from rfl, lt_W (isW_fw hl) (isW_fw hv53)]
  have hcm := S.Shp.c_max o l
  refine cond_i (fun hc => ?_) (fun hc => ?_)
  · refine hBad (fun h => ?_) w2 e12
    rw [decide_eq_true (Nat.zero_le i), decide_eq_true (Nat.zero_le l), decide_eq_true (show i ≤ 1099511627776 by omega), decide_eq_true (show l < v.len by omega)] at hc
    cases hc
  · have hc' := not_f hc
    simp only [Bool.and_eq_true, decide_eq_true_eq] at hc'
    obtain ⟨⟨⟨_, hi1⟩, _⟩, hl1⟩ := hc'
    refine f2i_i (by kernel_rfl) (by kernel_rfl) (isW_fw hi) (by omega) ?_
    refine f2i_i (by kernel_rfl) (by kernel_rfl) (isW_fw hl) (by omega) ?_
    have hlh : l ≤ x.h := by omega
    refine join_i (fun b w' => b = decide (x.c l ≤ i) ∧ w2 = w') ?_ fun J hJ => ?_
    · rintro b w' ⟨rfl, rfl⟩
      refine cond_i (fun h => ?_) (fun h => ?_)
      · have := of_decide_eq_true h
        exact hBad (fun h => by omega) w2 e12
      · have := of_decide_eq_false h
        exact hOk hlh (by omega) w2 e12
    · rw [show FloatKind.nearest .f64 (i : Int) = fw i from rfl, show FloatKind.nearest .f64 (l : Int) = fw l from rfl, fcEq_W (isW_fw hi) (isW_fw hi), fcEq_W (isW_fw hl) (isW_fw hl)]
      refine cond_i (fun h => by simp at h) (fun _ => ?_)
      refine elem_i (l := .int .i64) (x := (x.c l : Int)) o2.rd (by omega) (by omega) (by rw [Int.toNat_natCast, List.getElem?_map, S.Shp.cs_get hlh]; rfl) ?_
      refine hJ _ _ ⟨?_, rfl⟩
      exact decide_eq_decide.2 (show (i : Int) ≥ (x.c l : Int) ↔ x.c l ≤ i by omega)
theorem sAbove_s {i l : Nat} {K : Cx → Int → Int → World → Prop} {w : World} (o : x.right = true) (hi : i < 2 ^ 52) (hl : l < 2 ^ 52) (hBad : ¬ (l ≤ x.h ∧ i < x.c l) → ∀ w', Ext w w' → K ⟨0, 0⟩ 0 13 w')
    (hTop : l = x.h → i < x.c l → ∀ w', Ext w w' → K ⟨0, 0⟩ 0 51 w') (hOk : l < x.h → i < x.c l → ∀ w', Ext w w' → K (cz (i / x.aN) (l + 1)) ((i % x.aN * x.dN : Nat) : Int) 0 w') :
    callS Tryd.prog 43 #[.agg #[.int .i64 x.s, .int .i64 x.b, .int .i64 x.d], .complex .f64 (fw i) (fw l)] [.one .cpx, .one (.int .i64), .one (.int .i64)] K w := by
  refine f43_ok (p1 := cz i l) ?_
  unfold f43
  have ho := S.Shp.ok_of o
  refine box_i fun g w1 e1 hg v1 => ?_
  have v1 : Var w1 g (shC x) := v1
  refine ldSh_i v1 ?_
  refine sRight_s fun w2 e2 => ?_
  have e12 := e1.trans e2
  have v2 := v1.ext e2
  rw [o]
  refine cond_i (fun h => by cases h) (fun _ => ?_)
  refine ldSh_i v2 ?_
  dsimp only
  have h53 : i < 2 ^ 53 := Nat.lt_trans hi (by decide)
  have l53 : l < 2 ^ 53 := Nat.lt_trans hl (by decide)
  refine parts_s ho h53 l53 (fun hn w3 e3 => ?_) fun hlh hic w3 e3 => ?_
  · refine cond_i (fun _ => hBad hn w3 (e12.trans e3)) (fun h => by simp at h)
  refine cond_i (fun h => by simp at h) (fun _ => ?_)
  have v3 := v2.ext e3
  refine ldSh_i v3 ?_
  refine counts_s ho fun v w4 e4 o4 => ?_
  have hvl : v.len = x.h + 1 := by have := o4.len; simp [S.Shp.cs_len] at this; omega
  have hh := S.Shp.h_le ho
  have e14 := (e12.trans e3).trans e4
  have v4 := v3.ext e4
  refine elem_i (l := .int .i64) (x := (x.c l : Int)) o4.rd (by omega) (by omega) (by rw [Int.toNat_natCast, List.getElem?_map, S.Shp.cs_get hlh]; rfl) ?_
  have ha1 := ho.a1
  have ha2 := ho.a2
  have hdd := ho.dd
  have hcm := S.Shp.c_max ho l
  refine cond_i (fun h1 => ?_) (fun h1 => ?_)
  · have h1' : x.c l = 1 := by have h2 : (x.c l : Int) = 1 := by simpa using h1
                               omega
    refine hTop ?_ hic w4 e14
    have := (S.Shp.h_iff ho (k := l)).1 (by omega)
    omega
  · have h1' : x.c l ≠ 1 := by
      intro h2
      rw [h2] at h1
      simp at h1
    have hlt : l < x.h := by
      apply Classical.byContradiction
      intro hn
      have := (S.Shp.h_iff ho (k := l)).2 (by omega)
      have := S.Shp.c_pos ho l
      omega
    have hd := Ext.drew w4
    refine ⟨fun y => Ext w4 y, hd, ?_⟩
    refine ldShQ_i (x := x) (fun y hy => v4.ext hy) ?_
    refine ldShQ_i (x := x) (fun y hy => v4.ext hy) ?_
    refine ld1Q_i (l := .int .i64) (o := 2) x.d (fun y hy => v4.ext hy) rfl ?_
    refine arity_s ho fun w5 e5 => ?_
    refine more_i (hd.trans e5) ?_
    refine quoQ_i (by omega) ?_
    have hq : i / x.aN ≤ i := Nat.div_le_self _ _
    rw [S.tdiv_n, wrap_nat (by omega)]
    have hq53 : i / x.aN < 2 ^ 53 := Nat.lt_of_le_of_lt hq h53
    have hl1 : l + 1 < 2 ^ 53 := by
      rw [show (2 : Nat) ^ 53 = 2 ^ 52 + 2 ^ 52 from rfl]
      have : 1 ≤ 2 ^ 52 := Nat.le_of_ble_eq_true rfl
      omega
    refine caddQ_i (n := i / x.aN) (m := l) (k := 0) (l := 1) (isW_fw hq53) (isW_fw l53) isW0 isW1 hq53 hl1 ?_
    refine arity_s ho fun w6 e6 => ?_
    refine more_i ((hd.trans e5).trans e6) ?_
    refine remQ_i (by omega) ?_
    rw [S.tmod_n, ho.d, ← Int.natCast_mul]
    have hm := Nat.mod_lt i (show x.aN > 0 by omega)
    have hmd := Nat.mul_le_mul (show i % x.aN ≤ 128 by omega) (show x.dN ≤ 64 by omega)
    rw [wrap_nat (by omega), Nat.add_zero]
    exact hOk hlt hic _ (((e14.trans hd).trans e5).trans e6)
/-- The places from a block up to a level. -/
def pathTo (x : S.Shp) (i k : Nat) : List Value := (List.range (k + 1)).map fun j => vC (i / x.aN ^ j) j
theorem pathTo_succ (i k : Nat) : pathTo x i (k + 1) = pathTo x i k ++ [vC (i / x.aN ^ (k + 1)) (k + 1)] := by
  unfold pathTo
  rw [List.range_succ (n := k + 1), List.map_append]; rfl
theorem pathTo_len (i k : Nat) : (pathTo x i k).length = k + 1 := by simp [pathTo]
theorem pathTo_get {i k j : Nat} (h : j ≤ k) : (pathTo x i k)[j]? = some (vC (i / x.aN ^ j) j) := by
  unfold pathTo
  rw [List.getElem?_map, List.getElem?_range (by omega)]; rfl
theorem div_pow_succ (i a k : Nat) : i / a ^ (k + 1) = i / a ^ k / a := by rw [Nat.pow_succ, Nat.div_div_eq_div_mul]
/-- The place above a place is one. -/
theorem above_in (o : x.Ok) {i k : Nat} (h : i < x.c k) : i / x.aN < x.c (k + 1) := by
  show i / x.aN < S.up (x.c k) x.aN
  rw [S.up_iff (by have := o.a1; omega) (S.Shp.c_pos o k)]
  have h1 : i / x.aN * x.aN ≤ i := Nat.div_mul_le_self _ _
  omega
theorem path_in (o : x.Ok) {i : Nat} (h : i < x.c 0) : ∀ k, i / x.aN ^ k < x.c k
  | 0 => by rw [Nat.pow_zero, Nat.div_one]; exact h
  | k + 1 => by rw [div_pow_succ]; exact above_in o (path_in o h k)
theorem sPath_s {i : Int} {K : Sl → Int → World → Prop} {w : World} (hi : -9223372036854775808 ≤ i ∧ i ≤ 9223372036854775807) (hBad : x.right = false → ∀ w', Ext w w' → K Sl.nil 24 w') (hNo : x.right = true → ¬ (0 ≤ i ∧ i < x.c 0) → ∀ w', Ext w w' → K Sl.nil 13 w')
    (hOk : x.right = true → ∀ n : Nat, i = n → n < x.c 0 → ∀ v w', Ext w w' → Rd w' v 1 (pathTo x n x.h) → v.len = x.h + 1 → K v 0 w') :
    callS Tryd.prog 40 #[.agg #[.int .i64 x.s, .int .i64 x.b, .int .i64 x.d], .int .i64 i] [.one .slc, .one (.int .i64)] K w := by
  refine f40_ok ?_
  unfold f40
  refine box_i fun g w1 e1 hg v1 => ?_
  have v1 : Var w1 g (shC x) := v1
  refine ldSh_i v1 ?_
  refine sRight_s fun w2 e2 => ?_
  have e12 := e1.trans e2
  have v2 := v1.ext e2
  refine cond_i (fun h => hBad (by simpa using h) w2 e12) (fun h => ?_)
  have hr : x.right = true := by simpa using h
  have ho := S.Shp.ok_of hr
  have hc0 := S.Shp.c_max ho 0
  have hh := S.Shp.h_le ho
  refine join_i (fun b w' => b = (!decide (0 ≤ i ∧ i < x.c 0)) ∧ Ext w2 w') ?_ fun J hJ => ?_
  rotate_left
  · refine cond_i (fun h => ?_) (fun h => ?_)
    · have : i < 0 := of_decide_eq_true h
      exact hJ _ _ ⟨by rw [decide_eq_false (fun h => by omega)]; rfl, Fr.refl _ _⟩
    · have h0 : ¬ i < 0 := of_decide_eq_false h
      refine ldSh_i v2 ?_
      refine counts_s ho fun v w3 e3 o3 => ?_
      have hvl : v.len = x.h + 1 := by have := o3.len; simp [S.Shp.cs_len] at this; omega
      refine elem_i (l := .int .i64) (x := (x.c 0 : Int)) o3.rd (by omega) (by omega) (by rw [show (0 : Int).toNat = 0 from rfl, List.getElem?_map, S.Shp.cs_get (Nat.zero_le _)]; rfl) ?_
      refine hJ _ _ ⟨?_, e3⟩
      rw [← decide_not]
      exact decide_eq_decide.2 (show i ≥ (x.c 0 : Int) ↔ ¬ (0 ≤ i ∧ i < x.c 0) by omega)
  rintro b w3 ⟨rfl, e3⟩
  have e13 := e12.trans e3
  refine cond_i (fun h => hNo hr (fun hh => by rw [decide_eq_true hh] at h; cases h) w3 e13) (fun h => ?_)
  have hin : 0 ≤ i ∧ i < x.c 0 := by simpa using h
  obtain ⟨n, rfl⟩ : ∃ n : Nat, i = n := ⟨i.toNat, by omega⟩
  have hn : n < x.c 0 := by omega
  have v3 := v2.ext e3
  rw [show FloatKind.nearest .f64 ((n : Nat) : Int) = fw n from rfl]
  have hz : (0 : Nat) = fw 0 := fw0.symm
  refine buildV_i [vC n 0] (by rw [vC, fw0]; rfl) (fun v hv => by rw [List.mem_singleton.1 hv]; exact ⟨rfl, rfl⟩) rfl (by decide) fun v w4 e4 o4 => ?_
  refine loop_i (fun (st : Cx × Sl) w' => ∃ k, k ≤ x.h ∧ st.1 = cz (n / x.aN ^ k) k ∧ Ext w3 w' ∧ Own w' w3.heap.size st.2 1 (pathTo x n k)) (fun st w' => x.h + 1 - st.2.len) ⟨0, by omega, ?_, e4, ?_⟩ ?_
  · dsimp only
    rw [Nat.pow_zero, Nat.div_one, cz, fw0]
  · show Own w4 w3.heap.size v 1 (pathTo x n 0)
    rw [show pathTo x n 0 = [vC n 0] by simp [pathTo]]; exact o4
  rintro ⟨z, s⟩ w5 again ⟨k, hk, hz5, e5, o5⟩ hag
  dsimp only at hz5 o5 ⊢
  subst hz5
  have hsl : s.len = k + 1 := by have := o5.len; simp [pathTo_len] at this; omega
  have v5 := v3.ext e5
  refine ldSh_i v5 ?_
  dsimp only
  have hin5 := path_in ho hn k
  have hcm := S.Shp.c_max ho k
  refine sAbove_s hr (Nat.lt_of_lt_of_le hin5 (Nat.le_trans hcm (Nat.le_of_ble_eq_true rfl))) (Nat.lt_of_le_of_lt (show k ≤ 34 by omega) (Nat.le_of_ble_eq_true rfl)) (fun h => absurd ⟨hk, hin5⟩ h) (fun htop _ w6 e6 => ?_) fun hlt _ w6 e6 => ?_
  · refine cond_i (fun h => by simp at h) (fun _ => ?_)
    subst htop
    have o6 := o5.ext e6
    have e36 := e5.trans e6
    refine f56_ok ?_
    unfold f56
    have hcap := o6.rd.cap
    refine slClip_i hcap ?_
    exact hOk hr n rfl hn _ w6 (e13.trans e36) o6.rd.clip (by show s.len - 0 = _; omega)
  · refine cond_i (fun _ => ?_) (fun h => by simp at h)
    dsimp only
    have o6 := o5.ext e6
    have e36 := e5.trans e6
    refine append1V_i (vC (n / x.aN ^ k / x.aN) (k + 1)) rfl rfl o6 (by omega) e36.size fun v2 w7 f7 o7 hin7 => ?_
    refine hag _ w7 ⟨k + 1, by omega, ?_, Ext.own e36 f7 fun i hi => (o6.inB hi).1, ?_⟩ ?_
    · dsimp only
      rw [div_pow_succ]
    · dsimp only
      rw [pathTo_succ, div_pow_succ]; exact o7
    · have h7 := o7.len
      simp [pathTo_len] at h7
      dsimp only
      omega
end
end Go.Proofs.YtbmcbjmpogbmeaaDoor

/-! Plc08d -/
namespace Go.Proofs.YtbmcbjmpogbmeaaDoor
open Go Go.Eng
section
variable {x : S.Shp}
def plC (i l : Nat) : List Value := [.int .i64 (i : Int), .int .i64 (l : Int)]
theorem rAbove_s {i l : Nat} {K : Int → Int → Int → World → Prop} {w : World} (o : x.Ok) (hi : i ≤ 4611686018427387904) (hl : l ≤ 4611686018427387904) (hK : ∀ w', Ext w w' → K ((i / x.aN : Nat) : Int) ((l + 1 : Nat) : Int) ((i % x.aN * x.dN : Nat) : Int) w') :
    callS Tryd.prog 25 #[.agg #[.int .i64 x.s, .int .i64 x.b, .int .i64 x.d], .agg #[.int .i64 (i : Int), .int .i64 (l : Int)]] [.agg [.int .i64, .int .i64], .one (.int .i64)] K w := by
  refine f25_ok ?_
  unfold f25
  refine box_i fun g w1 e1 hg v1 => ?_
  have v1 : Var w1 g (shC x) := v1
  refine box_i fun g2 w2 e2 hg2 v2 => ?_
  have v2 : Var w2 g2 (plC i l) := v2
  refine alloc_i fun g3 w3 e3 hg3 v3 => ?_
  have E1 := e2.trans e3
  have E3 := e1.trans E1
  refine ld1_i (l := .int .i64) (o := 1) x.b (v1.ext E1) rfl ?_
  refine ld1_i (l := .int .i64) (o := 2) x.d (v1.ext E1) rfl ?_
  have hdd := o.dd
  have ha1 := o.a1
  have ha2 := o.a2
  refine quo_i (by rw [o.d]; omega) ?_
  rw [aN_i o]
  have hd := Ext.drew w3
  refine ⟨fun y => Ext w2 y, e3.trans hd, ?_⟩
  refine ld1Q_i (l := .int .i64) (o := 0) (i : Int) (fun y hy => v2.ext hy) rfl ?_
  refine quoQ_i (by omega) ?_
  have hq : i / x.aN ≤ i := Nat.div_le_self _ _
  rw [S.tdiv_n, wrap_nat (by omega)]
  refine ld1Q_i (l := .int .i64) (o := 1) (l : Int) (fun y hy => v2.ext hy) rfl ?_
  refine ld1Q_i (l := .int .i64) (o := 0) (i : Int) (fun y hy => v2.ext hy) rfl ?_
  refine remQ_i (by omega) ?_
  rw [S.tmod_n]
  refine ld1Q_i (l := .int .i64) (o := 2) x.d (fun y hy => (v1.ext e2).ext hy) rfl ?_
  have hm := Nat.mod_lt i (show x.aN > 0 by omega)
  have hmd := Nat.mul_le_mul (show i % x.aN ≤ 128 by omega) (show x.dN ≤ 64 by omega)
  rw [o.d, ← Int.natCast_mul, wrap_nat (n := i % x.aN * x.dN) (by omega), show (l : Int) + 1 = ((l + 1 : Nat) : Int) by omega, wrap_nat (n := l + 1) (by omega)]
  refine stV_i (n := 2) (vs := plC (i / x.aN) (l + 1)) 0 (v3.ext hd) rfl (Nat.le_refl 2) (fun v hv => ?_) fun w4 f4 v4 => ?_
  · simp only [plC, List.mem_cons, List.not_mem_nil, or_false] at hv
    rcases hv with rfl | rfl <;> rfl
  have E4 : Ext w2 w4 := Fr.own1 (e3.trans hd) f4 hg3
  refine more_i E4 ?_
  exact resV_i (n := 2) v4 rfl (hK w4 ((e1.trans e2).trans E4))
end
end Go.Proofs.YtbmcbjmpogbmeaaDoor
