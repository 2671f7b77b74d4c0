/- Layer 14 (tail): a tail's bytes. -/
import Derived.Test.YtepjheacppoelaaSpan
import Derived.Test.YtepjheacppoelaaPure01b
import Derived.Test.YtepjheacppoelaaLib6
import Derived.Test.YtepjheacppoelaaRowLib2
set_option linter.unusedSimpArgs false
set_option linter.unusedVariables false
namespace Go.S
open Go Go.Eng
structure Tl where
  d : Int
  o : Int
  s : Int
deriving DecidableEq
def Tl.zero : Tl := ⟨0, 0, 0⟩
def Tl.right (t : Tl) : Bool := decide (t.d ≥ 0) && decide (t.d ≤ 1099511627776) && (Int.tmod t.o 64 == 0) && decide (t.o ≥ t.d) && decide (t.o ≤ 1099511627776) && decide (t.s ≥ 1) && decide (t.s ≤ 65536)
theorem tmod64 {x : Int} : (Int.tmod x 64 = 0) ↔ x % 64 = 0 := by
  rw [← Int.dvd_iff_tmod_eq_zero, Int.dvd_iff_emod_eq_zero]
theorem tright_iff {t : Tl} : t.right = true ↔ 0 ≤ t.d ∧ t.d ≤ t.o ∧ t.o ≤ 1099511627776 ∧ t.o % 64 = 0 ∧ 1 ≤ t.s ∧ t.s ≤ 65536 := by
  unfold Tl.right
  simp only [Bool.and_eq_true, decide_eq_true_eq, beq_iff_eq, tmod64]
  omega
def thead : List UInt8 := [65, 86, 66, 102, 0, 0, 0, 1]
def tB (t : Tl) : List UInt8 := thead ++ be 8 t.d.toNat ++ be 8 t.o.toNat ++ be 8 t.s.toNat ++ List.replicate 32 0
theorem tB_len (t : Tl) : (tB t).length = 64 := by simp [tB, thead, be_length]
def tAt (bs : List UInt8) : Tl := ⟨(beN ((bs.drop 8).take 8) : Int), (beN ((bs.drop 16).take 8) : Int), (beN ((bs.drop 24).take 8) : Int)⟩
def tErr (bs : List UInt8) : Int := if bs.length ≠ 64 then 10 else if bs.take 4 ≠ [65, 86, 66, 102] then 30 else if (bs.drop 4).take 4 ≠ [0, 0, 0, 1] then 31 else
  if (tAt bs).right = false ∨ tB (tAt bs) ≠ bs then 12 else 0
def tParse (bs : List UInt8) : Tl := if tErr bs = 0 then tAt bs else .zero
theorem be_cons8 : ∀ (k n : Nat), be (k + 1) n = UInt8.ofNat (n / 256 ^ k) :: be k n
  | 0, n => by simp [be]
  | k + 1, n => by
    show be (k + 1) (n / 256) ++ [UInt8.ofNat n] = _
    rw [be_cons8 k (n / 256)]
    show _ = _ :: (be k (n / 256) ++ [UInt8.ofNat n])
    rw [Nat.div_div_eq_div_mul, Nat.pow_succ, Nat.mul_comm 256]; rfl
theorem tB_drop (t : Tl) : (tB t).drop 8 = be 8 t.d.toNat ++ be 8 t.o.toNat ++ be 8 t.s.toNat ++ List.replicate 32 0 := by
  unfold tB
  rw [List.append_assoc, List.append_assoc, List.append_assoc, List.drop_left' (by rfl)]
  simp only [List.append_assoc]
theorem tB_drop16 (t : Tl) : (tB t).drop 16 = be 8 t.o.toNat ++ be 8 t.s.toNat ++ List.replicate 32 0 := by
  have : (tB t).drop 16 = ((tB t).drop 8).drop 8 := by rw [List.drop_drop]
  rw [this, tB_drop, List.append_assoc, List.append_assoc, List.drop_left' (be_length _ _)]
  simp only [List.append_assoc]
theorem tB_drop24 (t : Tl) : (tB t).drop 24 = be 8 t.s.toNat ++ List.replicate 32 0 := by
  have : (tB t).drop 24 = ((tB t).drop 16).drop 8 := by rw [List.drop_drop]
  rw [this, tB_drop16, List.append_assoc, List.drop_left' (be_length _ _)]
theorem be_take8 (n : Nat) (l : List UInt8) (h : n < 256 ^ 8) : beN ((be 8 n ++ l).take 8) = n := by
  rw [List.take_left' (be_length _ _), beN_be _ _ h]
theorem tAt_tB {t : Tl} (h : t.right = true) : tAt (tB t) = t := by
  have := tright_iff.1 h
  unfold tAt
  rw [tB_drop, tB_drop16, tB_drop24]
  rw [List.append_assoc, List.append_assoc, be_take8 _ _ (by omega), List.append_assoc, be_take8 _ _ (by omega), be_take8 _ _ (by omega)]
  rw [Int.toNat_of_nonneg (by omega), Int.toNat_of_nonneg (by omega), Int.toNat_of_nonneg (by omega)]
theorem tErr_tB {t : Tl} (h : t.right = true) : tErr (tB t) = 0 := by
  have h1 : (tB t).take 4 = [65, 86, 66, 102] := by unfold tB; rw [List.append_assoc, List.append_assoc, List.append_assoc]; rfl
  have h2 : ((tB t).drop 4).take 4 = [0, 0, 0, 1] := by unfold tB; rw [List.append_assoc, List.append_assoc, List.append_assoc]; rfl
  unfold tErr
  rw [tAt_tB h, if_neg (by rw [tB_len]; simp), if_neg (Classical.not_not.2 h1), if_neg (Classical.not_not.2 h2), if_neg (by simp [h])]
theorem tround {t : Tl} (h : t.right = true) : tErr (tB t) = 0 ∧ tParse (tB t) = t := by
  refine ⟨tErr_tB h, ?_⟩
  unfold tParse
  rw [if_pos (tErr_tB h), tAt_tB h]
end Go.S
namespace Go.Proofs.Ytepjheacppoelaa
open Go Go.Eng
abbrev tls (t : S.Tl) : List Value := [.int .i64 t.d, .int .i64 t.o, .int .i64 t.s]
abbrev lT : List Lf := [.int .i64, .int .i64, .int .i64]
def okT (t : S.Tl) : Prop := S.I64 t.d ∧ S.I64 t.o ∧ S.I64 t.s
section
variable {P : Program} {w : World}
theorem ldT_i {t g : Nat} [AggTy P t 3] {a : S.Tl} {K : Int → Int → Int → World → Prop} (hv : Var w g (tls a)) (hK : K a.d a.o a.s w) :
    semS P (Instr.loadAt t (.pointer (some (at_ g 0)))) (.agg lT) K w :=
  ldV_i (n := 3) (ls := lT) 0 hv (Nat.le_refl 3) hK
theorem ldTQ_i {t g : Nat} [AggTy P t 3] {a : S.Tl} {C : World → Prop} {K : Int → Int → Int → Prop} (hv : ∀ w, C w → Var w g (tls a)) (hK : K a.d a.o a.s) :
    semQ P C (Instr.loadAt t (.pointer (some (at_ g 0)))) (.agg lT) K :=
  ldVQ_i (n := 3) (ls := lT) 0 hv (Nat.le_refl 3) hK
theorem stT_i {t g : Nat} [AggTy P t 3] {cs : List Value} {x y z : Int} {K : World → Prop} (hv : Var w g cs) (hl : cs.length = 3)
    (hK : ∀ w', Fr (fun k => k = g) w w' → Var w' g (tls ⟨x, y, z⟩) → K w') : semU P (Instr.storeAt t (.pointer (some (at_ g 0))) (.agg #[.int .i64 x, .int .i64 y, .int .i64 z])) K w :=
  stV_i (n := 3) (vs := tls ⟨x, y, z⟩) 0 hv rfl (by omega) (by simp [Value.oneCell']) fun w' h1 h2 => hK w' h1 (by simpa [List.drop_of_length_le (Nat.le_of_eq hl)] using h2)
end
theorem kT (t : S.Tl) : Kinds lT (tls t) := ⟨⟨t.d, rfl⟩, ⟨t.o, rfl⟩, ⟨t.s, rfl⟩, trivial⟩
theorem eqT_refl (t : S.Tl) : eqCells (tls t) (tls t) = true := by simp [eqCells, valueEq]
theorem eqT_iff {a b : S.Tl} : eqCells (tls a) (tls b) = true ↔ a = b := by
  obtain ⟨_, _, _⟩ := a; obtain ⟨_, _, _⟩ := b; simp [eqCells, valueEq]

theorem tright_s {t : S.Tl} {K : Bool → World → Prop} {w : World} (hK : ∀ w', Ext w w' → K t.right w') : callS Try.prog 23 #[.agg #[.int .i64 t.d, .int .i64 t.o, .int .i64 t.s]] [.one .bool] K w := by
  refine f23_ok ?_
  unfold f23
  refine box_i fun g w1 e1 hg v1 => ?_
  have v1 : Var w1 g (tls t) := v1
  have L0 : ∀ {K : Int → World → Prop}, K t.d w1 → semS Try.prog (Instr.loadAt 2 (.pointer (some (at_ g 0)))) (.one (.int .i64)) K w1 := fun h => ld1_i (l := .int .i64) t.d v1 rfl h
  have L1 : ∀ {K : Int → World → Prop}, K t.o w1 → semS Try.prog (Instr.loadAt 2 (.pointer (some (at_ g 1)))) (.one (.int .i64)) K w1 := fun h => ld1_i (l := .int .i64) t.o v1 rfl h
  have L2 : ∀ {K : Int → World → Prop}, K t.s w1 → semS Try.prog (Instr.loadAt 2 (.pointer (some (at_ g 2)))) (.one (.int .i64)) K w1 := fun h => ld1_i (l := .int .i64) t.s v1 rfl h
  refine L0 ?_
  refine join_i (fun c w' => c = (decide (t.d ≥ 0) && decide (t.d ≤ 1099511627776)) ∧ w1 = w') ?_ fun J hJ =>
    cond_i (fun hc => L0 (hJ _ _ ⟨by simp only [hc, Bool.true_and], rfl⟩)) (fun hc => hJ _ _ ⟨by simp only [hc, Bool.false_and], rfl⟩)
  rintro c w' ⟨hc0, rfl⟩
  refine join_i (fun c' w' => c' = (c && (Int.tmod t.o 64 == 0)) ∧ w1 = w') ?_ fun J hJ =>
    cond_i (fun hc => L1 (hJ _ _ ⟨by simp only [hc, Bool.true_and], rfl⟩)) (fun hc => hJ _ _ ⟨by simp only [hc, Bool.false_and], rfl⟩)
  rintro c1 w' ⟨hc1, rfl⟩
  refine join_i (fun c' w' => c' = (c1 && decide (t.o ≥ t.d)) ∧ w1 = w') ?_ fun J hJ =>
    cond_i (fun hc => L1 (L0 (hJ _ _ ⟨by simp only [hc, Bool.true_and], rfl⟩))) (fun hc => hJ _ _ ⟨by simp only [hc, Bool.false_and], rfl⟩)
  rintro c2 w' ⟨hc2, rfl⟩
  refine join_i (fun c' w' => c' = (c2 && decide (t.o ≤ 1099511627776)) ∧ w1 = w') ?_ fun J hJ =>
    cond_i (fun hc => L1 (hJ _ _ ⟨by simp only [hc, Bool.true_and], rfl⟩)) (fun hc => hJ _ _ ⟨by simp only [hc, Bool.false_and], rfl⟩)
  rintro c3 w' ⟨hc3, rfl⟩
  refine join_i (fun c' w' => c' = (c3 && decide (t.s ≥ 1)) ∧ w1 = w') ?_ fun J hJ =>
    cond_i (fun hc => L2 (hJ _ _ ⟨by simp only [hc, Bool.true_and], rfl⟩)) (fun hc => hJ _ _ ⟨by simp only [hc, Bool.false_and], rfl⟩)
  rintro c4 w' ⟨hc4, rfl⟩
  refine join_i (fun c' w' => c' = (c4 && decide (t.s ≤ 65536)) ∧ w1 = w') ?_ fun J hJ =>
    cond_i (fun hc => L2 (hJ _ _ ⟨by simp only [hc, Bool.true_and], rfl⟩)) (fun hc => hJ _ _ ⟨by simp only [hc, Bool.false_and], rfl⟩)
  rintro c5 w' ⟨hc5, rfl⟩
  subst hc0 hc1 hc2 hc3 hc4 hc5
  exact hK _ e1

theorem lawRight_s {t : S.Tl} {K : Bool → World → Prop} {w : World} (hK : ∀ w', Ext w w' → K t.right w') : callS Try.prog 12 #[.agg #[.int .i64 t.d, .int .i64 t.o, .int .i64 t.s]] [.one .bool] K w := by
  refine f12_ok ?_
  unfold f12
  refine box_i fun g w1 e1 hg v1 => ?_
  have v1 : Var w1 g (tls t) := v1
  have L0 : ∀ {K : Int → World → Prop}, K t.d w1 → semS Try.prog (Instr.loadAt 2 (.pointer (some (at_ g 0)))) (.one (.int .i64)) K w1 := fun h => ld1_i (l := .int .i64) t.d v1 rfl h
  have L1 : ∀ {K : Int → World → Prop}, K t.o w1 → semS Try.prog (Instr.loadAt 2 (.pointer (some (at_ g 1)))) (.one (.int .i64)) K w1 := fun h => ld1_i (l := .int .i64) t.o v1 rfl h
  have L2 : ∀ {K : Int → World → Prop}, K t.s w1 → semS Try.prog (Instr.loadAt 2 (.pointer (some (at_ g 2)))) (.one (.int .i64)) K w1 := fun h => ld1_i (l := .int .i64) t.s v1 rfl h
  refine L0 ?_
  refine join_i (fun c w' => c = (decide (t.d ≥ 0) && decide (t.o ≥ t.d)) ∧ w1 = w') ?_ fun J hJ =>
    cond_i (fun hc => L1 (L0 (hJ _ _ ⟨by simp only [hc, Bool.true_and], rfl⟩))) (fun hc => hJ _ _ ⟨by simp only [hc, Bool.false_and], rfl⟩)
  rintro c w' ⟨hc0, rfl⟩
  refine join_i (fun c' w' => c' = (c && decide (t.o ≤ 1099511627776)) ∧ w1 = w') ?_ fun J hJ =>
    cond_i (fun hc => L1 (hJ _ _ ⟨by simp only [hc, Bool.true_and], rfl⟩)) (fun hc => hJ _ _ ⟨by simp only [hc, Bool.false_and], rfl⟩)
  rintro c1 w' ⟨hc1, rfl⟩
  refine join_i (fun c' w' => c' = (c1 && (Int.tmod t.o 64 == 0)) ∧ w1 = w') ?_ fun J hJ =>
    cond_i (fun hc => L1 (hJ _ _ ⟨by simp only [hc, Bool.true_and], rfl⟩)) (fun hc => hJ _ _ ⟨by simp only [hc, Bool.false_and], rfl⟩)
  rintro c2 w' ⟨hc2, rfl⟩
  refine join_i (fun c' w' => c' = (c2 && decide (t.s ≥ 1)) ∧ w1 = w') ?_ fun J hJ =>
    cond_i (fun hc => L2 (hJ _ _ ⟨by simp only [hc, Bool.true_and], rfl⟩)) (fun hc => hJ _ _ ⟨by simp only [hc, Bool.false_and], rfl⟩)
  rintro c3 w' ⟨hc3, rfl⟩
  refine join_i (fun c' w' => c' = (c3 && decide (t.s ≤ 65536)) ∧ w1 = w') ?_ fun J hJ =>
    cond_i (fun hc => L2 (hJ _ _ ⟨by simp only [hc, Bool.true_and], rfl⟩)) (fun hc => hJ _ _ ⟨by simp only [hc, Bool.false_and], rfl⟩)
  rintro c4 w' ⟨hc4, rfl⟩
  have : c4 = t.right := by
    rw [Bool.eq_iff_iff, S.tright_iff]
    subst hc0 hc1 hc2 hc3 hc4
    simp only [Bool.and_eq_true, decide_eq_true_eq, beq_iff_eq, S.tmod64]
    omega
  rw [this]
  exact hK _ e1

theorem number_s {n size : Nat} {K : Sl → World → Prop} {w : World} (hz : size ≤ 1000) (hn : n < 9223372036854775808) (hK : ∀ v w', Ext w w' → OwnB w' w.heap.size v (S.be size n) → K v w') :
    callS Try.prog 28 #[.int .i64 (n : Int), .int .i64 (size : Int)] [.one .slc] K w := by
  refine f28_ok ?_
  unfold f28
  refine makeB_i (by omega) (by omega) fun v w1 e1 o1 => ?_
  have hvl := OwnB.len o1
  simp only [Int.toNat_natCast, List.length_replicate] at hvl o1
  rw [wrap_i64 (by omega) (by omega)]
  refine loop_i (fun (s : Int × Int) w' => ∃ k : Nat, k ≤ size ∧ s.2 = (size : Int) - 1 - k ∧ s.1 = ((n / 256 ^ k : Nat) : Int) ∧ Ext w w' ∧ OwnB w' w.heap.size v (List.replicate (size - k) 0 ++ S.be k n)) (fun s _ => (s.2 + 1).toNat) ⟨0, by omega, by simp, by simp, e1, by simpa [S.be] using o1⟩ ?_
  rintro ⟨m, i⟩ w2 again ⟨k, hk, hi, hm, e2, o2⟩ hag
  dsimp only at hi hm o2 ⊢
  subst hi
  subst hm
  refine cond_i (fun hlt => ?_) (fun hge => ?_)
  · have hk' : k < size := by simp at hlt; omega
    have hq : n / 256 ^ k < 9223372036854775808 := Nat.lt_of_le_of_lt (Nat.div_le_self _ _) hn
    refine put1_i (b := UInt8.ofNat (n / 256 ^ k)) o2 (by omega) (by omega) ?_ fun w3 f3 o3 => ?_
    · rw [Int.tmod_eq_emod_of_nonneg (Int.natCast_nonneg _), wrap_u8_mod]
      simp only [UInt8.toNat_ofNat']
      omega
    · refine hag _ w3 ⟨k + 1, by omega, ?_, ?_, Ext.own e2 f3 fun i hi => (o2.inB hi).1, ?_⟩ ?_
      · simp only [wrap_i64 (x := (size : Int) - 1 - k - 1) (by omega) (by omega)]; omega
      · have hp : n / 256 ^ (k + 1) = n / 256 ^ k / 256 := by rw [Nat.pow_succ, Nat.div_div_eq_div_mul]
        rw [hp]
        generalize n / 256 ^ k = q at hq ⊢
        simp only [Int.tdiv_eq_ediv_of_nonneg (show (0 : Int) ≤ (q : Int) by omega)]
        rw [wrap_i64 (by omega) (by omega)]; omega
      · have hset : (List.replicate (size - k) (0 : UInt8) ++ S.be k n).set ((size : Int) - 1 - k).toNat (UInt8.ofNat (n / 256 ^ k)) = List.replicate (size - (k + 1)) 0 ++ S.be (k + 1) n := by
          rw [show ((size : Int) - 1 - k).toNat = size - (k + 1) by omega, show size - k = (size - (k + 1)) + 1 by omega, List.replicate_succ', List.append_assoc, List.set_append_right _ _ (by simp), S.be_cons8]
          simp
        rw [hset] at o3
        exact o3
      · simp only [wrap_i64 (x := (size : Int) - 1 - k - 1) (by omega) (by omega)]; omega
  · have hk' : k = size := by simp at hge; omega
    subst hk'
    exact hK v w2 e2 (by simpa using o2)

theorem equal_s {s t : Sl} {xs ys : List UInt8} {K : Bool → World → Prop} {w : World} (hs : Bts w s xs) (ht : Bts w t ys) (hK : K (xs == ys) w) : callS Try.prog 26 #[.slice s.a s.len s.cap, .slice t.a t.len t.cap] [.one .bool] K w := by
  refine f26_ok ?_
  unfold f26
  refine b2s_i hs ?_
  refine b2s_i ht ?_
  simp only [str_toList]
  exact hK

/-- Numbers that may be put. -/
def putT (t : S.Tl) : Prop := 0 ≤ t.d ∧ t.d ≤ 9223372036854775807 ∧ 0 ≤ t.o ∧ t.o ≤ 9223372036854775807 ∧ 0 ≤ t.s ∧ t.s ≤ 9223372036854775807
theorem putT_right {t : S.Tl} (h : t.right = true) : putT t := by have := S.tright_iff.1 h; unfold putT; omega
def putN (t : S.Tl) : List (Nat × Nat) := [(4, 1), (8, t.d.toNat), (8, t.o.toNat), (8, t.s.toNat)]
theorem S.put8 {bs : List UInt8} {z n : Nat} (hz : z = 4 ∧ n = 1 ∨ z = 8) : S.put bs z n = (bs ++ S.be z n, 0) := by
  unfold S.put
  rcases hz with ⟨rfl, rfl⟩ | rfl
  · rw [if_neg (by omega), if_neg (by decide)]; rfl
  · rw [if_neg (by omega), if_neg (by omega)]; rfl
def pr (p : Nat × Nat) : List Value := [.int .i64 (p.1 : Int), .int .i64 (p.2 : Int)]
theorem tbytes_s {t : S.Tl} {K : Sl → World → Prop} {w : World} (ht : putT t) (hK : ∀ v w', Ext w w' → OwnB w' w.heap.size v (S.tB t) → K v w') :
    callS Try.prog 27 #[.agg #[.int .i64 t.d, .int .i64 t.o, .int .i64 t.s]] [.one .slc] K w := by
  refine f27_ok ?_
  unfold f27
  refine box_i fun g w1 e1 hg v1 => ?_
  have v1 : Var w1 g (tls t) := v1
  refine bytesConst_i [65, 86, 66, 102] (by kernel_rfl) rfl (by omega) fun x w2 e2 o2 => ?_
  have v2 := v1.ext e2
  refine ld1_i (l := .int .i64) t.d v2 rfl ?_
  refine ld1_i (l := .int .i64) t.o v2 rfl ?_
  refine ld1_i (l := .int .i64) t.s v2 rfl ?_
  have hfl : ((putN t).map pr).flatten = [.int .i64 4, .int .i64 1, .int .i64 8, .int .i64 t.d, .int .i64 8, .int .i64 t.o, .int .i64 8, .int .i64 t.s] := by
    obtain ⟨h1, _, h2, _, h3, _⟩ := ht
    simp only [putN, List.map, pr, List.flatten, List.append_nil, List.cons_append, List.nil_append]
    rw [Int.toNat_of_nonneg h1, Int.toNat_of_nonneg h2, Int.toNat_of_nonneg h3]; rfl
  refine buildSlice_i (sz := 2) #[.int .i64 4, .int .i64 1, .int .i64 8, .int .i64 t.d, .int .i64 8, .int .i64 t.o, .int .i64 8, .int .i64 t.s] (by kernel_rfl) rfl (by omega) fun u w3 e3 o3 hul => ?_
  have e13 := e2.trans e3
  have rds : Rds w3 u 2 ((putN t).map pr) := ⟨by rw [hfl]; exact o3.rd, by simp [hul, putN], fun c hc => by
    obtain ⟨p, _, rfl⟩ := List.mem_map.1 hc; rfl⟩
  obtain ⟨ua, hua⟩ := rds.some (by omega)
  have hb : ∀ j, j < 4 → S.I64 (((putN t).getD j (0, 0)).1 : Int) ∧ S.I64 (((putN t).getD j (0, 0)).2 : Int) ∧ (((putN t).getD j (0, 0)).1 = 4 ∧ ((putN t).getD j (0, 0)).2 = 1 ∨ ((putN t).getD j (0, 0)).1 = 8) := fun j hj => by
    obtain ⟨h1, h4, h2, h5, h3, h6⟩ := ht
    have : j = 0 ∨ j = 1 ∨ j = 2 ∨ j = 3 := by omega
    rcases this with rfl | rfl | rfl | rfl
    · exact ⟨⟨(by decide : (-9223372036854775808 : Int) ≤ ((4 : Nat) : Int)), (by decide : ((4 : Nat) : Int) ≤ 9223372036854775807)⟩, ⟨(by decide : (-9223372036854775808 : Int) ≤ ((1 : Nat) : Int)), (by decide : ((1 : Nat) : Int) ≤ 9223372036854775807)⟩, .inl ⟨rfl, rfl⟩⟩
    · exact ⟨⟨(by decide : (-9223372036854775808 : Int) ≤ ((8 : Nat) : Int)), (by decide : ((8 : Nat) : Int) ≤ 9223372036854775807)⟩, ⟨show _ ≤ ((t.d.toNat : Nat) : Int) by omega, show ((t.d.toNat : Nat) : Int) ≤ _ by omega⟩, .inr rfl⟩
    · exact ⟨⟨(by decide : (-9223372036854775808 : Int) ≤ ((8 : Nat) : Int)), (by decide : ((8 : Nat) : Int) ≤ 9223372036854775807)⟩, ⟨show _ ≤ ((t.o.toNat : Nat) : Int) by omega, show ((t.o.toNat : Nat) : Int) ≤ _ by omega⟩, .inr rfl⟩
    · exact ⟨⟨(by decide : (-9223372036854775808 : Int) ≤ ((8 : Nat) : Int)), (by decide : ((8 : Nat) : Int) ≤ 9223372036854775807)⟩, ⟨show _ ≤ ((t.s.toNat : Nat) : Int) by omega, show ((t.s.toNat : Nat) : Int) ≤ _ by omega⟩, .inr rfl⟩
  refine loop_i (fun (s : Sl × Int) w' => ∃ j : Nat, j ≤ 4 ∧ s.2 = j ∧ Ext w3 w' ∧ OwnB w' w1.heap.size s.1 ([65, 86, 66, 102] ++ ((putN t).take j).flatMap fun p => S.be p.1 p.2)) (fun s _ => 4 - s.2.toNat) ⟨0, by omega, rfl, Fr.refl _ _, by rw [List.take_zero, List.flatMap_nil, List.append_nil]; exact Own.ext o2 e3⟩ ?_
  rintro ⟨s, i⟩ w4 again ⟨j, hj, hi, e4, o4⟩ hag
  dsimp only at hi o4 ⊢
  subst hi
  have hll : (([65, 86, 66, 102] : List UInt8) ++ ((putN t).take j).flatMap fun p => S.be p.1 p.2).length ≤ 32 := by
    have : j = 0 ∨ j = 1 ∨ j = 2 ∨ j = 3 ∨ j = 4 := by omega
    rcases this with rfl | rfl | rfl | rfl | rfl <;> simp [putN, S.be_length]
  refine cond_i (fun hlt => ?_) (fun hge => ?_)
  · have hj4 : j < 4 := by simp at hlt; omega
    obtain ⟨b1, b2, b3⟩ := hb j hj4
    have hp : ((putN t).map pr)[j]? = some (pr ((putN t).getD j (0, 0))) := by simp [show j < (putN t).length from hj4]
    have ht1 : (putN t).take (j + 1) = (putN t).take j ++ [(putN t).getD j (0, 0)] := by
      rw [List.take_succ_eq_append_getElem hj4, List.getD_eq_getElem?_getD, List.getElem?_eq_getElem hj4, Option.getD_some]
    generalize (putN t).getD j (0, 0) = p at b1 b2 b3 hp ht1
    refine ix_i hua (by omega) (by omega) ?_
    rw [Int.toNat_natCast]
    refine ldA_i (cs := pr p) rfl ((rds.ext e4).elem hua hp) ?_
    show semS Try.prog (Instr.alloc _ true (.tuple #[])) (.one .adr) _ w4
    refine alloc_i fun g5 w5 e5 hg5 v5 => ?_
    refine stV_i (n := 2) (vs := pr p) 0 v5 rfl (Nat.le_refl 2) (fun v hv => by simp only [pr, List.mem_cons, List.not_mem_nil, or_false] at hv; rcases hv with rfl | rfl <;> rfl) fun w6 f6 v6 => ?_
    have v6 : Var w6 g5 (pr p) := v6
    have e46 := Fr.own1 e5 f6 hg5
    refine ixA_i (by omega) (by omega) ?_
    refine ld1_i (l := .int .i64) (p.1 : Int) v6 rfl ?_
    refine ixA_i (by omega) (by omega) ?_
    refine ld1_i (l := .int .i64) (p.2 : Int) v6 rfl ?_
    have o6 := o4.ext e46
    refine put_s o6.rd (by omega) b1 b2 fun v w7 e7 o7 => ?_
    rw [S.put8 b3] at o7
    refine hag _ w7 ⟨j + 1, by omega, ?_, (e4.trans e46).trans e7, ?_⟩ ?_
    · simp only [wrap_i64 (x := (j : Int) + 1) (by omega) (by omega)]; omega
    · rw [ht1, List.flatMap_append, ← List.append_assoc, List.flatMap_cons, List.flatMap_nil, List.append_nil]
      exact o7.base (B' := w1.heap.size) (by have := ((e13.trans e4).trans e46).size; omega)
    · simp only [wrap_i64 (x := (j : Int) + 1) (by omega) (by omega)]; omega
  · have hj4 : j = 4 := by simp at hge; omega
    subst hj4
    refine pad_s o4.rd (by omega) (by constructor <;> omega) fun v w5 e5 o5 => ?_
    have hpad : (S.pad (([65, 86, 66, 102] : List UInt8) ++ ((putN t).take 4).flatMap fun p => S.be p.1 p.2) 64).1 = S.tB t := by
      have h32 : (([65, 86, 66, 102] : List UInt8) ++ ((putN t).take 4).flatMap fun p => S.be p.1 p.2) = S.thead ++ S.be 8 t.d.toNat ++ S.be 8 t.o.toNat ++ S.be 8 t.s.toNat := by
        simp only [putN, List.take_succ_cons, List.take_zero, List.flatMap_cons, List.flatMap_nil, List.append_nil, S.thead]
        simp only [← List.append_assoc]; rfl
      rw [h32]
      have hl : (S.thead ++ S.be 8 t.d.toNat ++ S.be 8 t.o.toNat ++ S.be 8 t.s.toNat).length = 32 := by simp [S.thead, S.be_length]
      unfold S.pad S.tB
      rw [hl]; rfl
    rw [hpad] at o5
    have E := (e1.trans e13).trans (e4.trans e5)
    exact hK v w5 E (o5.base (by have := ((e1.trans e13).trans e4).size; omega))
end Go.Proofs.Ytepjheacppoelaa
