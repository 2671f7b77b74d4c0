/- Plc08: put together by merge.py out of Plc08a Plc08b Plc08c Plc08d. / How many bytes a digest has: both functions. / slices.Grow of nothing and slices.Concat, of bytes. / Layer 9 (grove): digests with a salt, and trees, as plain data. / Layer 9 (grove): what noughts behind the data do to a tree; blocks on a path. / Layer 9 (grove): the tables of both sums, as a row lists them. -/
import Derived.Test.YteopoodhclljjaaGreatDoorSh
import Derived.Test.YteopoodhclljjaaGreatDoorTy
import Derived.Test.YteopoodhclljjaaGreatDoorLib6
import Derived.Test.YteopoodhclljjaaGreatDoorG17b
import Derived.Test.YteopoodhclljjaaGreatDoorLib7
import Derived.Test.YteopoodhclljjaaGreatDoorG17c
import Derived.Test.YteopoodhclljjaaGreatDoorG17d
import Derived.Test.YteopoodhclljjaaGreatDoorRowLib3
set_option linter.unusedSimpArgs false
set_option linter.unusedVariables false
/-! Plc08 -/
/-! Plc08a -/
namespace Go.Proofs.YteopoodhclljjaaGreatDoor
open Go Go.Eng
theorem not_f {b : Bool} (h : (!b) = false) : b = true := by cases b <;> simp_all
theorem beq1 (n : Nat) : ((n : Int) == 1) = (n == 1) := by
  rw [Bool.eq_iff_iff, beq_iff_eq, beq_iff_eq]
  omega
def shC (x : S.Shp) : List Value := [.int .i64 x.s, .int .i64 x.b, .int .i64 x.d]
theorem ldSh_i {P : Program} {t g : Nat} {w : World} [AggTy P t 3] {x : S.Shp} {K : Int → Int → Int → World → Prop} (hv : Var w g (shC x)) (hK : K x.s x.b x.d w) :
    semS P (Instr.loadAt t (.pointer (some (at_ g 0)))) (.agg [(.int .i64), (.int .i64), (.int .i64)]) K w :=
  ldV_i (n := 3) (ls := [.int .i64, .int .i64, .int .i64]) 0 hv (Nat.le_refl 3) hK
theorem ldShQ_i {P : Program} {t g : Nat} [AggTy P t 3] {x : S.Shp} {C : World → Prop} {K : Int → Int → Int → Prop} (hv : ∀ w, C w → Var w g (shC x)) (hK : K x.s x.b x.d) :
    semQ P C (Instr.loadAt t (.pointer (some (at_ g 0)))) (.agg [(.int .i64), (.int .i64), (.int .i64)]) K :=
  ldVQ_i (n := 3) (ls := [.int .i64, .int .i64, .int .i64]) 0 hv (Nat.le_refl 3) hK
theorem stSh_i {P : Program} {t g : Nat} {w : World} [AggTy P t 3] {x : S.Shp} {cs : List Value} {K : World → Prop} (hv : Var w g cs) (hl : cs.length = 3) (hK : ∀ w', Fr (fun k => k = g) w w' → Var w' g (shC x) → K w') :
    semU P (Instr.storeAt t (.pointer (some (at_ g 0))) (.agg #[.int .i64 x.s, .int .i64 x.b, .int .i64 x.d])) K w :=
  stV_i (n := 3) (vs := shC x) 0 hv rfl (by omega) (fun v hv => by simp only [shC, List.mem_cons, List.not_mem_nil, or_false] at hv; rcases hv with rfl | rfl | rfl <;> rfl) fun w' h1 h2 => hK w' h1 (by simpa [List.drop_of_length_le (Nat.le_of_eq hl)] using h2)
theorem ones_s {p : Nat} {K : Int → World → Prop} {w : World} (h2 : p ≤ 4096) (hK : K (S.ones p : Int) w) : callS Tryz.prog 87 #[.int .u64 (p : Int)] [.one (.int .i64)] K w := by
  refine f87_ok ?_
  unfold f87
  refine f102_ok ?_
  unfold f102
  have hp : p < S.q64 := Nat.lt_of_le_of_lt h2 (by decide)
  have e8 := S.on4_i (p := S.on3 (S.on2 (S.on1 p))) 8 (by omega) (S.lt_q (S.mod_lt _))
  have e16 := S.on4_i (p := S.on4 8 (S.on3 (S.on2 (S.on1 p)))) 16 (by omega) (S.mod_lt _)
  have e32 := S.on4_i (p := S.on4 16 (S.on4 8 (S.on3 (S.on2 (S.on1 p))))) 32 (by omega) (S.mod_lt _)
  rw [S.on1_i hp, S.on2_i (p := S.on1 p) (S.mod_lt _), S.on3_i (p := S.on2 (S.on1 p)) (S.mod_lt _)]
  rw [show ((8 : Nat) : Int) = 8 from rfl] at e8
  rw [show ((16 : Nat) : Int) = 16 from rfl] at e16
  rw [show ((32 : Nat) : Int) = 32 from rfl] at e32
  rw [e8, e16, e32]
  have e := S.on5_i (S.onesR_lt h2)
  show K (andI .i64 (IntKind.wrap .i64 (S.onesR p : Int)) 127) w
  rw [e]
  exact hK
theorem sRight_s {x : S.Shp} {K : Bool → World → Prop} {w : World} (hK : ∀ w', Ext w w' → K x.right w') : callS Tryz.prog 65 #[.agg #[.int .i64 x.s, .int .i64 x.b, .int .i64 x.d]] [.one .bool] K w := by
  refine f65_ok ?_
  unfold f65
  refine box_i fun g w1 e1 hg v1 => ?_
  have v1 : Var w1 g (shC x) := v1
  have L0 : ∀ {K : Int → World → Prop}, K x.s w1 → semS Tryz.prog (Instr.loadAt 3 (.pointer (some (at_ g 0)))) (.one (.int .i64)) K w1 := fun h => ld1_i (l := .int .i64) x.s v1 rfl h
  have L1 : ∀ {K : Int → World → Prop}, K x.b w1 → semS Tryz.prog (Instr.loadAt 3 (.pointer (some (at_ g 1)))) (.one (.int .i64)) K w1 := fun h => ld1_i (l := .int .i64) x.b v1 rfl h
  have L2 : ∀ {K : Int → World → Prop}, K x.d w1 → semS Tryz.prog (Instr.loadAt 3 (.pointer (some (at_ g 2)))) (.one (.int .i64)) K w1 := fun h => ld1_i (l := .int .i64) x.d v1 rfl h
  refine L0 ?_
  refine join_i (fun c w' => c = (decide (1 ≤ x.s) && decide (x.s ≤ 1099511627776)) ∧ w1 = w') ?_ fun J hJ =>
    cond_i (fun hc => L0 (hJ _ _ ⟨by rw [show decide (1 ≤ x.s) = true from hc, Bool.true_and], rfl⟩)) (fun hc => hJ _ _ ⟨by rw [show decide (1 ≤ x.s) = false from hc, Bool.false_and], rfl⟩)
  rintro c w' ⟨hc0, rfl⟩
  refine join_i (fun c' w' => c' = (c && (x.d == 32 || x.d == 64)) ∧ w1 = w') ?_ fun J hJ =>
    cond_i (fun hc => L2 (join_i (fun c' w' => c' = (x.d == 32 || x.d == 64) ∧ w1 = w') (fun c' w' h => hJ _ _ ⟨by rw [h.1, hc, Bool.true_and], h.2⟩) fun J2 hJ2 => cond_i (fun h => hJ2 _ _ ⟨by rw [h, Bool.true_or], rfl⟩) (fun h => L2 (hJ2 _ _ ⟨by rw [h, Bool.false_or], rfl⟩)))) (fun hc => hJ _ _ ⟨by rw [hc, Bool.false_and], rfl⟩)
  rintro c1 w' ⟨hc1, rfl⟩
  refine join_i (fun c' w' => c' = (c1 && decide (x.b ≥ 2 * x.d)) ∧ w1 = w') ?_ fun J hJ =>
    cond_i (fun hc => L1 (L2 (hJ _ _ ⟨?_, rfl⟩))) (fun hc => hJ _ _ ⟨by rw [hc, Bool.false_and], rfl⟩)
  rotate_left
  · rw [hc, Bool.true_and]
    have hd : x.d = 32 ∨ x.d = 64 := by
      rw [hc1, Bool.and_eq_true] at hc
      have := hc.2
      simpa using this
    rw [wrap_i64 (by omega) (by omega)]
  rintro c2 w' ⟨hc2, rfl⟩
  refine join_i (fun c' w' => c' = (c2 && decide (x.b ≤ 4096)) ∧ w1 = w') ?_ fun J hJ =>
    cond_i (fun hc => L1 (hJ _ _ ⟨by rw [hc, Bool.true_and], rfl⟩)) (fun hc => hJ _ _ ⟨by rw [hc, Bool.false_and], rfl⟩)
  rintro c3 w' ⟨hc3, rfl⟩
  have hpow : ∀ {p : Int}, p.toNat ∈ S.pows → p ≤ 4096 := fun {p} h => by
    simp only [S.pows, List.mem_cons, List.not_mem_nil, or_false] at h
    omega
  have hfin : x.right = (c2 && decide (x.b.toNat ∈ S.pows)) := by
    rw [hc2, hc1, hc0]; rfl
  refine join_i (fun c' w' => c' = x.right ∧ w1 = w') (fun c' w' h => by obtain ⟨rfl, rfl⟩ := h; exact hK _ e1) fun J hJ =>
    cond_i (fun hc => L1 ?_) (fun hc => hJ _ _ ⟨?_, rfl⟩)
  · rw [hc3, Bool.and_eq_true] at hc
    obtain ⟨h2, h3⟩ := hc
    have h3' := of_decide_eq_true h3
    have hbd : 64 ≤ x.b := by
      rw [hc2, hc1, Bool.and_eq_true, Bool.and_eq_true] at h2
      have h4 := of_decide_eq_true h2.2
      have h5 := h2.1.2
      have : x.d = 32 ∨ x.d = 64 := by simpa using h5
      omega
    rw [wrap_u64 (by omega) (by omega), show x.b = ((x.b.toNat : Nat) : Int) by omega]
    refine ones_s (by omega) (hJ _ _ ⟨?_, rfl⟩)
    rw [hfin, h2, Bool.true_and, ← S.ones_iff (by omega) (by omega)]
    exact beq1 _
  · rw [hfin]
    symm
    rw [Bool.eq_false_iff]
    intro h
    rw [Bool.and_eq_true] at h
    rw [hc3, h.1, Bool.true_and] at hc
    have := hpow (of_decide_eq_true h.2)
    have := of_decide_eq_false hc
    omega
end Go.Proofs.YteopoodhclljjaaGreatDoor

/-! Plc08b -/
namespace Go.S
open Go Go.Eng
theorem up_i {n a : Nat} (hn : n ≤ 2199023255552) (ha : 1 ≤ a) (ha2 : a ≤ 4096) : IntKind.wrap .i64 (Int.tdiv (IntKind.wrap .i64 (IntKind.wrap .i64 ((n : Int) + (a : Int)) - 1)) (a : Int)) = (up n a : Int) := by
  rw [wrap_i64 (x := (n : Int) + a) (by omega) (by omega), wrap_i64 (x := (n : Int) + a - 1) (by omega) (by omega), Int.tdiv_eq_ediv_of_nonneg (by omega), show (n : Int) + a - 1 = ((n + a - 1 : Nat) : Int) by omega, ← Int.natCast_ediv]
  have h : (n + a - 1) / a ≤ n + a - 1 := Nat.div_le_self _ _
  show IntKind.wrap .i64 (((n + a - 1) / a : Nat) : Int) = (((n + a - 1) / a : Nat) : Int)
  generalize (n + a - 1) / a = q at h ⊢
  exact wrap_i64 (by omega) (by omega)
theorem up_def {n a : Nat} (ha : 1 ≤ a) : up n a = if n % a = 0 then n / a else n / a + 1 := by
  unfold up
  have h := Nat.div_add_mod n a
  have hr := Nat.mod_lt n (show a > 0 by omega)
  generalize n / a = q at h ⊢
  generalize n % a = r at h hr ⊢
  subst h
  by_cases h0 : r = 0
  · rw [if_pos h0, h0, show a * q + 0 + a - 1 = a * q + (a - 1) by omega, Nat.mul_add_div (by omega), Nat.div_eq_of_lt (by omega)]; rfl
  · rw [if_neg h0, show a * q + r + a - 1 = a * q + (a + (r - 1)) by omega, Nat.mul_add_div (by omega), show a + (r - 1) = a * 1 + (r - 1) by omega, Nat.mul_add_div (by omega), Nat.div_eq_of_lt (a := r - 1) (by omega)]
theorem tdiv_n (n a : Nat) : Int.tdiv (n : Int) (a : Int) = ((n / a : Nat) : Int) := by
  rw [Int.tdiv_eq_ediv_of_nonneg (by omega), ← Int.natCast_ediv]
theorem tmod_n (n a : Nat) : Int.tmod (n : Int) (a : Int) = ((n % a : Nat) : Int) := by
  rw [Int.tmod_eq_emod_of_nonneg (by omega), ← Int.natCast_emod]
end Go.S
namespace Go.Proofs.YteopoodhclljjaaGreatDoor
open Go Go.Eng
def vI (n : Nat) : Value := .int .i64 (n : Int)
section
variable {x : S.Shp}
theorem wrap_nat {n : Nat} (h : n ≤ 9223372036854775807) : IntKind.wrap .i64 (n : Int) = (n : Int) := wrap_i64 (by omega) (by omega)
theorem aN_i (o : x.Ok) : IntKind.wrap .i64 (Int.tdiv x.b x.d) = (x.aN : Int) := by
  rw [o.b, o.d, S.tdiv_n]
  have h : x.bN / x.dN ≤ x.bN := Nat.div_le_self _ _
  have h2 := o.b2
  exact wrap_nat (by omega)
theorem arity_s {K : Int → World → Prop} {w : World} (o : x.Ok) (hK : ∀ w', Ext w w' → K (x.aN : Int) w') : callS Tryz.prog 75 #[.agg #[.int .i64 x.s, .int .i64 x.b, .int .i64 x.d]] [.one (.int .i64)] K w := by
  refine f75_ok ?_
  unfold f75
  refine box_i fun g w1 e1 hg v1 => ?_
  have v1 : Var w1 g (shC x) := v1
  refine ld1_i (l := .int .i64) (o := 1) x.b v1 rfl ?_
  refine ld1_i (l := .int .i64) (o := 2) x.d v1 rfl ?_
  have hd := o.dd
  refine quo_i (by rw [o.d]; omega) ?_
  rw [aN_i o]
  exact hK w1 e1
/-- The levels up to one, as they are listed. -/
def csTo (x : S.Shp) (k : Nat) : List Nat := (List.range (k + 1)).map x.c
theorem csTo_succ (k : Nat) : csTo x (k + 1) = csTo x k ++ [x.c (k + 1)] := by
  unfold csTo
  rw [List.range_succ (n := k + 1), List.map_append]; rfl
theorem csTo_len (k : Nat) : (csTo x k).length = k + 1 := by simp [csTo]
theorem counts_s {K : Sl → World → Prop} {w : World} (o : x.Ok) (hK : ∀ v w', Ext w w' → Own w' w.heap.size v 1 (x.cs.map vI) → K v w') :
    callS Tryz.prog 66 #[.agg #[.int .i64 x.s, .int .i64 x.b, .int .i64 x.d]] [.one .slc] K w := by
  refine f66_ok ?_
  unfold f66
  refine box_i fun g w1 e1 hg v1 => ?_
  have v1 : Var w1 g (shC x) := v1
  have hgl := v1.lt
  refine ld1_i (l := .int .i64) (o := 0) x.s v1 rfl ?_
  refine ld1_i (l := .int .i64) (o := 1) x.b v1 rfl ?_
  refine ld1_i (l := .int .i64) (o := 1) x.b v1 rfl ?_
  have hb1 := o.b1
  have hb2 := o.b2
  have hs2 := o.s2
  have ha1 := o.a1
  have ha2 := o.a2
  refine quo_i (by rw [o.b]; omega) ?_
  rw [show IntKind.wrap .i64 (Int.tdiv (IntKind.wrap .i64 (IntKind.wrap .i64 (x.s + x.b) - 1)) x.b) = (x.c 0 : Int) by rw [o.s, o.b]; exact S.up_i (by omega) (by omega) hb2]
  refine buildV_i [vI (x.c 0)] rfl (fun v hv => by rw [List.mem_singleton.1 hv]; exact ⟨rfl, rfl⟩) rfl (by decide) fun v w2 e2 o2 => ?_
  refine loop_i (fun (st : Int × Sl) w' => ∃ k, k ≤ x.h ∧ st.1 = (x.c k : Int) ∧ Ext w1 w' ∧ Own w' w1.heap.size st.2 1 ((csTo x k).map vI)) (fun st _ => st.1.toNat) ⟨0, by omega, rfl, e2, o2⟩ ?_
  rintro ⟨n, s⟩ w3 again ⟨k, hk, hn, e3, o3⟩ hag
  dsimp only at hn o3 ⊢
  subst hn
  have hcm := S.Shp.c_max o k
  refine cond_i (fun hgt => ?_) (fun hle => ?_)
  · have hgt' : 1 < x.c k := by have := of_decide_eq_true hgt; omega
    have hkh : k < x.h := by
      apply Classical.byContradiction
      intro hn
      have := (S.Shp.h_iff o (k := k)).2 (by omega)
      omega
    have v3 := v1.ext e3
    have hd := Ext.drew w3
    refine ⟨fun y => Ext w3 y, hd, ?_⟩
    refine ldShQ_i (x := x) (fun y hy => v3.ext hy) ?_
    refine ldShQ_i (x := x) (fun y hy => v3.ext hy) ?_
    refine arity_s o fun w4 e4 => ?_
    refine more_i (hd.trans e4) ?_
    refine arity_s o fun w5 e5 => ?_
    refine more_i ((hd.trans e4).trans e5) ?_
    refine quoQ_i (by omega) ?_
    rw [S.up_i (n := x.c k) (by omega) (by omega) (by omega)]
    have e35 := (hd.trans e4).trans e5
    refine append1V_i (vI (x.c (k + 1))) rfl rfl (o3.ext e35) (by have := o3.len; simp [csTo_len] at this; have := S.Shp.h_le o; omega) (by have := (e3.trans e35).size; omega) fun v w6 f6 o6 hin => ?_
    refine hag _ w6 ⟨k + 1, by omega, rfl, Ext.own (e3.trans e35) f6 fun i hi => (o3.inB hi).1, ?_⟩ ?_
    · rw [csTo_succ, List.map_append]; exact o6
    · have := S.Shp.c_lt o hgt'
      show ((x.c (k + 1) : Nat) : Int).toNat < ((x.c k : Nat) : Int).toNat
      omega
  · have hle' : x.c k ≤ 1 := by have := of_decide_eq_false hle; omega
    have hkh : k = x.h := by have := (S.Shp.h_iff o).1 hle'; omega
    subst hkh
    exact hK s w3 (e1.trans e3) (Own.base o3 e1.size)
theorem sCounts_s {K : Sl → Int → World → Prop} {w : World} (hBad : x.right = false → ∀ w', Ext w w' → K Sl.nil 24 w') (hOk : x.right = true → ∀ v w', Ext w w' → Own w' w.heap.size v 1 (x.cs.map vI) → K v 0 w') :
    callS Tryz.prog 33 #[.agg #[.int .i64 x.s, .int .i64 x.b, .int .i64 x.d]] [.one .slc, .one (.int .i64)] K w := by
  refine f33_ok ?_
  unfold f33
  refine box_i fun g w1 e1 hg v1 => ?_
  have v1 : Var w1 g (shC x) := v1
  refine ldSh_i v1 ?_
  refine sRight_s fun w2 e2 => ?_
  have e12 := e1.trans e2
  refine cond_i (fun h => hBad (by simpa using h) w2 e12) (fun h => ?_)
  have hr : x.right = true := by simpa using h
  refine ldSh_i (v1.ext e2) ?_
  refine counts_s (S.Shp.ok_of hr) fun v w3 e3 o3 => ?_
  exact hOk hr v w3 (e12.trans e3) (Own.base o3 e12.size)
/-- A list of numbers added up. -/
theorem sumL_s {w : World} {s : Sl} {l : List Nat} {a0 i0 : Nat} {R : Int × Int → World → Prop} (hx : Rd w s 1 (l.map vI)) (hl : l.length ≤ 64) (hm : ∀ y ∈ l, y ≤ 17179869184) (ha : a0 ≤ 1099511627776) (hi0 : i0 ≤ l.length)
    (hR : R (((a0 + (l.drop i0).sum : Nat) : Int), (l.length : Int)) w) :
    loopS (σ := Int × Int) (fun s11 w again12 =>
      cond (decide (s11.2 < (s.len : Int)))
        (semS Tryz.prog (Instr.indexAt 49 (.slice s.a s.len s.cap) (.int .i64 s11.2)) (.one .adr) (fun x13 w =>
        semS Tryz.prog (Instr.loadAt 3 (.pointer (some x13))) (.one (.int .i64)) (fun x14 w =>
        again12 (IntKind.wrap .i64 (s11.1 + x14), IntKind.wrap .i64 (s11.2 + 1)) w) w) w)
        (R s11 w)) ((a0 : Int), (i0 : Int)) w := by
  have hsl : s.len = l.length := by have := hx.len; simp at this; omega
  refine loop_i (fun (st : Int × Int) w' => w' = w ∧ ∃ (i acc : Nat), i ≤ l.length ∧ st = ((acc : Int), (i : Int)) ∧ acc + (l.drop i).sum = a0 + (l.drop i0).sum) (fun st _ => l.length - st.2.toNat) ⟨rfl, i0, a0, hi0, rfl, rfl⟩ ?_
  rintro st w' again ⟨rfl, i, acc, hi, rfl, hacc⟩ hag
  dsimp only
  have hsum : (l.drop i0).sum ≤ 1099511627776 := by
    have h1 := S.Shp.sum_le (l := l.drop i0) (m := 17179869184) fun y hy => hm y (List.mem_of_mem_drop hy)
    have h2 := Nat.mul_le_mul_right 17179869184 (show (l.drop i0).length ≤ 64 by rw [List.length_drop]; omega)
    omega
  refine cond_i (fun hlt => ?_) (fun hge => ?_)
  · have hi' : i < l.length := by have := of_decide_eq_true hlt; omega
    have hd : l.drop i = l[i] :: l.drop (i + 1) := List.drop_eq_getElem_cons hi'
    rw [hd, List.sum_cons] at hacc
    refine elem_i (l := .int .i64) (x := (l[i] : Int)) hx (by omega) (by omega) (by rw [Int.toNat_natCast, List.getElem?_map, List.getElem?_eq_getElem hi']; rfl) ?_
    rw [wrap_i64 (x := (acc : Int) + (l[i] : Int)) (by omega) (by omega), wrap_i64 (x := (i : Int) + 1) (by omega) (by omega)]
    refine hag _ _ ⟨rfl, i + 1, acc + l[i], by omega, ?_, by omega⟩ ?_
    · rw [Int.natCast_add, Int.natCast_add]; rfl
    · show l.length - ((i : Int) + 1).toNat < l.length - ((i : Int)).toNat
      omega
  · have hi' : i = l.length := by have := of_decide_eq_false hge; omega
    subst hi'
    rw [List.drop_length, List.sum_nil, Nat.add_zero] at hacc
    rw [hacc]; exact hR
theorem mulB_i (o : x.Ok) {n : Nat} (hn : n ≤ 2199023255552) : IntKind.wrap .i64 ((n : Int) * x.b) = ((n * x.bN : Nat) : Int) := by
  have h := Nat.mul_le_mul hn o.b2
  rw [o.b, ← Int.natCast_mul]
  exact wrap_nat (by omega)
theorem rup_s {n a : Nat} {K : Int → World → Prop} {w : World} (hn : n ≤ 1099511627776) (ha : 1 ≤ a) (hK : K (S.up n a : Int) w) : callS Tryz.prog 34 #[.int .i64 (n : Int), .int .i64 (a : Int)] [.one (.int .i64)] K w := by
  refine f34_ok ?_
  unfold f34
  refine rem_i (by omega) ?_
  have hq : n / a ≤ n := Nat.div_le_self _ _
  rw [S.tmod_n]
  refine cond_i (fun h => ?_) (fun h => ?_)
  · have h0 : n % a = 0 := by have h1 : ((n % a : Nat) : Int) = 0 := by simpa using h
                              omega
    refine quo_i (by omega) ?_
    rw [S.tdiv_n, wrap_nat (by omega)]
    rw [S.up_def ha, if_pos h0] at hK; exact hK
  · have h0 : n % a ≠ 0 := by
      intro h1
      rw [h1] at h
      simp at h
    refine quo_i (by omega) ?_
    rw [S.tdiv_n, wrap_nat (by omega), show ((n / a : Nat) : Int) + 1 = ((n / a + 1 : Nat) : Int) by omega, wrap_nat (by omega)]
    rw [S.up_def ha, if_neg h0] at hK; exact hK
theorem rCounts_s {K : Sl → World → Prop} {w : World} (o : x.Ok) (hK : ∀ v w', Ext w w' → Own w' w.heap.size v 1 (x.cs.map vI) → K v w') :
    callS Tryz.prog 13 #[.agg #[.int .i64 x.s, .int .i64 x.b, .int .i64 x.d]] [.one .slc] K w := by
  refine f13_ok ?_
  unfold f13
  refine box_i fun g w1 e1 hg v1 => ?_
  have v1 : Var w1 g (shC x) := v1
  have hgl := v1.lt
  refine ld1_i (l := .int .i64) (o := 0) x.s v1 rfl ?_
  refine ld1_i (l := .int .i64) (o := 1) x.b v1 rfl ?_
  have hb1 := o.b1
  have hb2 := o.b2
  have hs2 := o.s2
  have ha1 := o.a1
  have ha2 := o.a2
  have hup := rup_s (w := w1) (n := x.sN) (a := x.bN) hs2 (by omega) (K := ?_) ?_
  rw [← o.s, ← o.b] at hup
  exact hup
  refine buildV_i [vI (x.c 0)] rfl (fun v hv => by rw [List.mem_singleton.1 hv]; exact ⟨rfl, rfl⟩) rfl (by decide) fun v w2 e2 o2 => ?_
  refine loop_i (fun (st : Int × Sl) w' => ∃ k, k ≤ x.h ∧ st.1 = (x.c k : Int) ∧ Ext w1 w' ∧ Own w' w1.heap.size st.2 1 ((csTo x k).map vI)) (fun st _ => st.1.toNat) ⟨0, by omega, rfl, e2, o2⟩ ?_
  rintro ⟨n, s⟩ w3 again ⟨k, hk, hn, e3, o3⟩ hag
  dsimp only at hn o3 ⊢
  subst hn
  have hcm := S.Shp.c_max o k
  refine cond_i (fun hgt => ?_) (fun hle => ?_)
  · have hgt' : 1 < x.c k := by have := of_decide_eq_true hgt; omega
    have hkh : k < x.h := by
      apply Classical.byContradiction
      intro hn
      have := (S.Shp.h_iff o (k := k)).2 (by omega)
      omega
    have v3 := v1.ext e3
    refine ld1_i (l := .int .i64) (o := 1) x.b v3 rfl ?_
    refine ld1_i (l := .int .i64) (o := 2) x.d v3 rfl ?_
    have hd := o.dd
    refine quo_i (by rw [o.d]; omega) ?_
    rw [aN_i o]
    refine rup_s (n := x.c k) (a := x.aN) (by omega) (by omega) ?_
    refine append1V_i (vI (x.c (k + 1))) rfl rfl o3 (by have := o3.len; simp [csTo_len] at this; have := S.Shp.h_le o; omega) (by have := e3.size; omega) fun v w6 f6 o6 hin => ?_
    refine hag _ w6 ⟨k + 1, by omega, rfl, Ext.own e3 f6 fun i hi => (o3.inB hi).1, ?_⟩ ?_
    · rw [csTo_succ, List.map_append]; exact o6
    · have := S.Shp.c_lt o hgt'
      show ((x.c (k + 1) : Nat) : Int).toNat < ((x.c k : Nat) : Int).toNat
      omega
  · have hle' : x.c k ≤ 1 := by have := of_decide_eq_false hle; omega
    have hkh : k = x.h := by have := (S.Shp.h_iff o).1 hle'; omega
    subst hkh
    exact hK s w3 (e1.trans e3) (Own.base o3 e1.size)
end
end Go.Proofs.YteopoodhclljjaaGreatDoor

/-! Plc08c -/
namespace Go.Eng
open Go
theorem slClip_i {P : Program} {w : World} {t e sz : Nat} {z : Value} [h : SliceTy P t e sz z] {s : Sl} {K : Sl → World → Prop} (hc : s.len ≤ s.cap) (hK : K (s.cut3 sz 0 s.len s.len) w) :
    semS P (Instr.sliceAt t (.slice s.a s.len s.cap) none (some (.int .i64 (s.len : Int))) (some (.int .i64 (s.len : Int)))) (.one .slc) K w := by
  refine ⟨Lf.enc .slc (s.cut3 sz 0 s.len s.len), w, ?_, one_dec (l := .slc) hK⟩
  have hb : ∀ c, (Instr.sliceBound (.int .i64 (s.len : Int)) s.cap c).run P w = .ok s.len w := fun c => by have := run_sliceBound (P := P) (w := w) (k := .i64) (i := (s.len : Int)) (y := s.cap) (c := c) (by omega) (by omega); rwa [Int.toNat_natCast] at this
  have hb1 : ∀ c, (Instr.sliceBound (.int .i64 (s.len : Int)) s.len c).run P w = .ok s.len w := fun c => by have := run_sliceBound (P := P) (w := w) (k := .i64) (i := (s.len : Int)) (y := s.len) (c := c) (by omega) (by omega); rwa [Int.toNat_natCast] at this
  simp [Instr.sliceAt, Instr.slice, run_underlying h.und, Instr.sliceBounds, hb, hb1, sizeOf_elem (t := t) (sz := sz), Sl.cut3, Lf.enc]
theorem Rd.clip {w : World} {s : Sl} {sz : Nat} {cs : List Value} (h : Rd w s sz cs) : Rd w (s.cut3 sz 0 s.len s.len) sz cs := by
  refine ⟨h.len, Nat.le_refl _, fun hn => ?_, fun b hb i v hv => ?_⟩
  · have h0 : s.len = 0 := by
      have : s.a = none := by
        by_cases h0 : s.len = 0
        · simpa [Sl.cut3, h0] using hn
        · simpa [Sl.cut3, h0] using hn
      exact (h.nil this).1
    exact ⟨h0, h0⟩
  · by_cases h0 : s.len = 0
    · have := h.len
      rw [h0, Nat.zero_mul] at this
      rw [List.length_eq_zero_iff.1 this] at hv
      cases hv
    · have hb' : s.a.map (·.add (0 * sz)) = Option.some b := by simpa [Sl.cut3, h0] using hb
      obtain ⟨a, ha, rfl⟩ := Option.map_eq_some_iff.1 hb'
      rw [add_add', Nat.zero_mul, Nat.zero_add]
      exact h.cells a ha i v hv
end Go.Eng
namespace Go.Proofs.YteopoodhclljjaaGreatDoor
open Go Go.Eng
/-- A place as a complex number. -/
abbrev cz (i l : Nat) : Cx := ⟨fw i, fw l⟩
def vC (i l : Nat) : Value := .complex .f64 (fw i) (fw l)
theorem fwMax : fw 1099511627776 = 4787326403894837248 := by decide +kernel
theorem isWMax : IsW 4787326403894837248 1099511627776 := by rw [← fwMax]; exact isW_fw (by decide)
section
variable {x : S.Shp}
theorem parts_s {i l : Nat} {K : Int → Int → Int → World → Prop} {w : World} (o : x.Ok) (hi : i < 2 ^ 53) (hl : l < 2 ^ 53) (hBad : ¬ (l ≤ x.h ∧ i < x.c l) → ∀ w', Ext w w' → K 0 0 13 w') (hOk : l ≤ x.h → i < x.c l → ∀ w', Ext w w' → K (i : Int) (l : Int) 0 w') :
    callS Tryz.prog 74 #[.agg #[.int .i64 x.s, .int .i64 x.b, .int .i64 x.d], .complex .f64 (fw i) (fw l)] [.one (.int .i64), .one (.int .i64), .one (.int .i64)] K w := by
  refine f74_ok (p1 := cz i l) ?_
  unfold f74
  refine box_i fun g w1 e1 hg v1 => ?_
  have v1 : Var w1 g (shC x) := v1
  refine ldSh_i v1 ?_
  refine counts_s o fun v w2 e2 o2 => ?_
  have hvl : v.len = x.h + 1 := by have := o2.len; simp [S.Shp.cs_len] at this; omega
  have hh := S.Shp.h_le o
  have e12 := e1.trans e2
  dsimp only
  have hv53 : v.len < 2 ^ 53 := Nat.lt_of_le_of_lt (show v.len ≤ 35 by omega) (by decide)
  rw [ge_W (isW_fw hi) isW0, le_W (isW_fw hi) isWMax, ge_W (isW_fw hl) isW0, show FloatKind.nearest .f64 (v.len : Int) = fw v.len from rfl, lt_W (isW_fw hl) (isW_fw hv53)]
  have hcm := S.Shp.c_max o l
  refine cond_i (fun hc => ?_) (fun hc => ?_)
  · refine hBad (fun h => ?_) w2 e12
    rw [decide_eq_true (Nat.zero_le i), decide_eq_true (Nat.zero_le l), decide_eq_true (show i ≤ 1099511627776 by omega), decide_eq_true (show l < v.len by omega)] at hc
    cases hc
  · have hc' := not_f hc
    simp only [Bool.and_eq_true, decide_eq_true_eq] at hc'
    obtain ⟨⟨⟨_, hi1⟩, _⟩, hl1⟩ := hc'
    refine f2i_i (by kernel_rfl) (by kernel_rfl) (isW_fw hi) (by omega) ?_
    refine f2i_i (by kernel_rfl) (by kernel_rfl) (isW_fw hl) (by omega) ?_
    have hlh : l ≤ x.h := by omega
    refine join_i (fun b w' => b = decide (x.c l ≤ i) ∧ w2 = w') ?_ fun J hJ => ?_
    · rintro b w' ⟨rfl, rfl⟩
      refine cond_i (fun h => ?_) (fun h => ?_)
      · have := of_decide_eq_true h
        exact hBad (fun h => by omega) w2 e12
      · have := of_decide_eq_false h
        exact hOk hlh (by omega) w2 e12
    · rw [show FloatKind.nearest .f64 (i : Int) = fw i from rfl, show FloatKind.nearest .f64 (l : Int) = fw l from rfl, fcEq_W (isW_fw hi) (isW_fw hi), fcEq_W (isW_fw hl) (isW_fw hl)]
      refine cond_i (fun h => by simp at h) (fun _ => ?_)
      refine elem_i (l := .int .i64) (x := (x.c l : Int)) o2.rd (by omega) (by omega) (by rw [Int.toNat_natCast, List.getElem?_map, S.Shp.cs_get hlh]; rfl) ?_
      refine hJ _ _ ⟨?_, rfl⟩
      exact decide_eq_decide.2 (show (i : Int) ≥ (x.c l : Int) ↔ x.c l ≤ i by omega)
theorem sAbove_s {i l : Nat} {K : Cx → Int → Int → World → Prop} {w : World} (o : x.right = true) (hi : i < 2 ^ 52) (hl : l < 2 ^ 52) (hBad : ¬ (l ≤ x.h ∧ i < x.c l) → ∀ w', Ext w w' → K ⟨0, 0⟩ 0 13 w')
    (hTop : l = x.h → i < x.c l → ∀ w', Ext w w' → K ⟨0, 0⟩ 0 51 w') (hOk : l < x.h → i < x.c l → ∀ w', Ext w w' → K (cz (i / x.aN) (l + 1)) ((i % x.aN * x.dN : Nat) : Int) 0 w') :
    callS Tryz.prog 48 #[.agg #[.int .i64 x.s, .int .i64 x.b, .int .i64 x.d], .complex .f64 (fw i) (fw l)] [.one .cpx, .one (.int .i64), .one (.int .i64)] K w := by
  refine f48_ok (p1 := cz i l) ?_
  unfold f48
  have ho := S.Shp.ok_of o
  refine box_i fun g w1 e1 hg v1 => ?_
  have v1 : Var w1 g (shC x) := v1
  refine ldSh_i v1 ?_
  refine sRight_s fun w2 e2 => ?_
  have e12 := e1.trans e2
  have v2 := v1.ext e2
  rw [o]
  refine cond_i (fun h => by cases h) (fun _ => ?_)
  refine ldSh_i v2 ?_
  dsimp only
  have h53 : i < 2 ^ 53 := Nat.lt_trans hi (by decide)
  have l53 : l < 2 ^ 53 := Nat.lt_trans hl (by decide)
  refine parts_s ho h53 l53 (fun hn w3 e3 => ?_) fun hlh hic w3 e3 => ?_
  · refine cond_i (fun _ => hBad hn w3 (e12.trans e3)) (fun h => by simp at h)
  refine cond_i (fun h => by simp at h) (fun _ => ?_)
  have v3 := v2.ext e3
  refine ldSh_i v3 ?_
  refine counts_s ho fun v w4 e4 o4 => ?_
  have hvl : v.len = x.h + 1 := by have := o4.len; simp [S.Shp.cs_len] at this; omega
  have hh := S.Shp.h_le ho
  have e14 := (e12.trans e3).trans e4
  have v4 := v3.ext e4
  refine elem_i (l := .int .i64) (x := (x.c l : Int)) o4.rd (by omega) (by omega) (by rw [Int.toNat_natCast, List.getElem?_map, S.Shp.cs_get hlh]; rfl) ?_
  have ha1 := ho.a1
  have ha2 := ho.a2
  have hdd := ho.dd
  have hcm := S.Shp.c_max ho l
  refine cond_i (fun h1 => ?_) (fun h1 => ?_)
  · have h1' : x.c l = 1 := by have h2 : (x.c l : Int) = 1 := by simpa using h1
                               omega
    refine hTop ?_ hic w4 e14
    have := (S.Shp.h_iff ho (k := l)).1 (by omega)
    omega
  · have h1' : x.c l ≠ 1 := by
      intro h2
      rw [h2] at h1
      simp at h1
    have hlt : l < x.h := by
      apply Classical.byContradiction
      intro hn
      have := (S.Shp.h_iff ho (k := l)).2 (by omega)
      have := S.Shp.c_pos ho l
      omega
    have hd := Ext.drew w4
    refine ⟨fun y => Ext w4 y, hd, ?_⟩
    refine ldShQ_i (x := x) (fun y hy => v4.ext hy) ?_
    refine ldShQ_i (x := x) (fun y hy => v4.ext hy) ?_
    refine ld1Q_i (l := .int .i64) (o := 2) x.d (fun y hy => v4.ext hy) rfl ?_
    refine arity_s ho fun w5 e5 => ?_
    refine more_i (hd.trans e5) ?_
    refine quoQ_i (by omega) ?_
    have hq : i / x.aN ≤ i := Nat.div_le_self _ _
    rw [S.tdiv_n, wrap_nat (by omega)]
    have hq53 : i / x.aN < 2 ^ 53 := Nat.lt_of_le_of_lt hq h53
    have hl1 : l + 1 < 2 ^ 53 := by
      rw [show (2 : Nat) ^ 53 = 2 ^ 52 + 2 ^ 52 from rfl]
      have : 1 ≤ 2 ^ 52 := Nat.le_of_ble_eq_true rfl
      omega
    refine caddQ_i (n := i / x.aN) (m := l) (k := 0) (l := 1) (isW_fw hq53) (isW_fw l53) isW0 isW1 hq53 hl1 ?_
    refine arity_s ho fun w6 e6 => ?_
    refine more_i ((hd.trans e5).trans e6) ?_
    refine remQ_i (by omega) ?_
    rw [S.tmod_n, ho.d, ← Int.natCast_mul]
    have hm := Nat.mod_lt i (show x.aN > 0 by omega)
    have hmd := Nat.mul_le_mul (show i % x.aN ≤ 128 by omega) (show x.dN ≤ 64 by omega)
    rw [wrap_nat (by omega), Nat.add_zero]
    exact hOk hlt hic _ (((e14.trans hd).trans e5).trans e6)
theorem sOffset_s {i l : Nat} {K : Int → Int → World → Prop} {w : World} (o : x.right = true) (hi : i < 2 ^ 53) (hl : l < 2 ^ 53) (hBad : ¬ (1 ≤ l ∧ l ≤ x.h ∧ i < x.c l) → ∀ w', Ext w w' → K 0 13 w')
    (hOk : 1 ≤ l → l ≤ x.h → i < x.c l → ∀ w', Ext w w' → K (((i + x.sumA l) * x.bN : Nat) : Int) 0 w') :
    callS Tryz.prog 89 #[.agg #[.int .i64 x.s, .int .i64 x.b, .int .i64 x.d], .complex .f64 (fw i) (fw l)] [.one (.int .i64), .one (.int .i64)] K w := by
  refine f89_ok (p1 := cz i l) ?_
  unfold f89
  have ho := S.Shp.ok_of o
  refine box_i fun g w1 e1 hg v1 => ?_
  have v1 : Var w1 g (shC x) := v1
  refine ldSh_i v1 ?_
  refine sRight_s fun w2 e2 => ?_
  have e12 := e1.trans e2
  have v2 := v1.ext e2
  rw [o]
  refine cond_i (fun h => by cases h) (fun _ => ?_)
  refine ldSh_i v2 ?_
  dsimp only
  refine parts_s ho hi hl (fun hn w3 e3 => ?_) fun hlh hic w3 e3 => ?_
  · refine cond_i (fun _ => hBad (fun h => hn h.2) w3 (e12.trans e3)) (fun h => by simp at h)
  have hh := S.Shp.h_le ho
  have hcm := S.Shp.c_max ho l
  refine cond_i (fun h => ?_) (fun h => ?_)
  · refine hBad (fun h2 => ?_) w3 (e12.trans e3)
    have h3 : (l : Int) = 0 := by simpa using h
    omega
  have hl1 : 1 ≤ l := by
    apply Classical.byContradiction
    intro h2
    have h3 : l = 0 := by omega
    rw [h3] at h
    simp at h
  have v3 := v2.ext e3
  refine ldSh_i v3 ?_
  refine counts_s ho fun v w4 e4 o4 => ?_
  have hvl : v.len = x.h + 1 := by have := o4.len; simp [S.Shp.cs_len] at this; omega
  have v4 := v3.ext e4
  rw [show (l : Int) + 1 = ((l + 1 : Nat) : Int) by omega, wrap_nat (by omega)]
  refine slLo_i (by omega) (by omega) ?_
  rw [Int.toNat_natCast]
  have hr3 := Rd.cut o4.rd (l := l + 1) (hi := v.len) (by omega) (Nat.le_refl _)
  rw [Nat.mul_one, Nat.mul_one, ← List.map_drop, ← List.map_take, List.take_of_length_le (by rw [List.length_drop, S.Shp.cs_len]; omega)] at hr3
  refine sumL_s (a0 := i) (i0 := 0) hr3 (by rw [List.length_drop, S.Shp.cs_len]; omega) (fun y hy => S.Shp.cs_mem ho (List.mem_of_mem_drop hy)) (by omega) (by omega) ?_
  refine ld1_i (l := .int .i64) (o := 1) x.b v4 rfl ?_
  rw [List.drop_zero]
  have hs : (x.cs.drop (l + 1)).sum = x.sumA l := rfl
  rw [hs]
  dsimp only
  rw [mulB_i ho (by have := S.Shp.sumA_le ho l; omega)]
  exact hOk hl1 hlh hic w4 ((e12.trans e3).trans e4)
/-- The places from a block up to a level. -/
def pathTo (x : S.Shp) (i k : Nat) : List Value := (List.range (k + 1)).map fun j => vC (i / x.aN ^ j) j
theorem pathTo_succ (i k : Nat) : pathTo x i (k + 1) = pathTo x i k ++ [vC (i / x.aN ^ (k + 1)) (k + 1)] := by
  unfold pathTo
  rw [List.range_succ (n := k + 1), List.map_append]; rfl
theorem pathTo_len (i k : Nat) : (pathTo x i k).length = k + 1 := by simp [pathTo]
theorem pathTo_get {i k j : Nat} (h : j ≤ k) : (pathTo x i k)[j]? = some (vC (i / x.aN ^ j) j) := by
  unfold pathTo
  rw [List.getElem?_map, List.getElem?_range (by omega)]; rfl
theorem div_pow_succ (i a k : Nat) : i / a ^ (k + 1) = i / a ^ k / a := by rw [Nat.pow_succ, Nat.div_div_eq_div_mul]
/-- The place above a place is one. -/
theorem above_in (o : x.Ok) {i k : Nat} (h : i < x.c k) : i / x.aN < x.c (k + 1) := by
  show i / x.aN < S.up (x.c k) x.aN
  rw [S.up_iff (by have := o.a1; omega) (S.Shp.c_pos o k)]
  have h1 : i / x.aN * x.aN ≤ i := Nat.div_mul_le_self _ _
  omega
theorem path_in (o : x.Ok) {i : Nat} (h : i < x.c 0) : ∀ k, i / x.aN ^ k < x.c k
  | 0 => by rw [Nat.pow_zero, Nat.div_one]; exact h
  | k + 1 => by rw [div_pow_succ]; exact above_in o (path_in o h k)
theorem sPathO_s {i : Int} {K : Sl → Int → World → Prop} {w : World} (hi : -9223372036854775808 ≤ i ∧ i ≤ 9223372036854775807) (hBad : x.right = false → ∀ w', Ext w w' → K Sl.nil 24 w') (hNo : x.right = true → ¬ (0 ≤ i ∧ i < x.c 0) → ∀ w', Ext w w' → K Sl.nil 13 w')
    (hOk : x.right = true → ∀ n : Nat, i = n → n < x.c 0 → ∀ v w', Ext w w' → Rd w' v 1 (pathTo x n x.h) → v.len = x.h + 1 → (∀ k, v.inB k → w.heap.size ≤ k ∧ k < w'.heap.size) → K v 0 w') :
    callS Tryz.prog 41 #[.agg #[.int .i64 x.s, .int .i64 x.b, .int .i64 x.d], .int .i64 i] [.one .slc, .one (.int .i64)] K w := by
  refine f41_ok ?_
  unfold f41
  refine box_i fun g w1 e1 hg v1 => ?_
  have v1 : Var w1 g (shC x) := v1
  refine ldSh_i v1 ?_
  refine sRight_s fun w2 e2 => ?_
  have e12 := e1.trans e2
  have v2 := v1.ext e2
  refine cond_i (fun h => hBad (by simpa using h) w2 e12) (fun h => ?_)
  have hr : x.right = true := by simpa using h
  have ho := S.Shp.ok_of hr
  have hc0 := S.Shp.c_max ho 0
  have hh := S.Shp.h_le ho
  refine join_i (fun b w' => b = (!decide (0 ≤ i ∧ i < x.c 0)) ∧ Ext w2 w') ?_ fun J hJ => ?_
  rotate_left
  · refine cond_i (fun h => ?_) (fun h => ?_)
    · have : i < 0 := of_decide_eq_true h
      exact hJ _ _ ⟨by rw [decide_eq_false (fun h => by omega)]; rfl, Fr.refl _ _⟩
    · have h0 : ¬ i < 0 := of_decide_eq_false h
      refine ldSh_i v2 ?_
      refine counts_s ho fun v w3 e3 o3 => ?_
      have hvl : v.len = x.h + 1 := by have := o3.len; simp [S.Shp.cs_len] at this; omega
      refine elem_i (l := .int .i64) (x := (x.c 0 : Int)) o3.rd (by omega) (by omega) (by rw [show (0 : Int).toNat = 0 from rfl, List.getElem?_map, S.Shp.cs_get (Nat.zero_le _)]; rfl) ?_
      refine hJ _ _ ⟨?_, e3⟩
      rw [← decide_not]
      exact decide_eq_decide.2 (show i ≥ (x.c 0 : Int) ↔ ¬ (0 ≤ i ∧ i < x.c 0) by omega)
  rintro b w3 ⟨rfl, e3⟩
  have e13 := e12.trans e3
  refine cond_i (fun h => hNo hr (fun hh => by rw [decide_eq_true hh] at h; cases h) w3 e13) (fun h => ?_)
  have hin : 0 ≤ i ∧ i < x.c 0 := by simpa using h
  obtain ⟨n, rfl⟩ : ∃ n : Nat, i = n := ⟨i.toNat, by omega⟩
  have hn : n < x.c 0 := by omega
  have v3 := v2.ext e3
  rw [show FloatKind.nearest .f64 ((n : Nat) : Int) = fw n from rfl]
  have hz : (0 : Nat) = fw 0 := fw0.symm
  refine buildV_i [vC n 0] (by rw [vC, fw0]; rfl) (fun v hv => by rw [List.mem_singleton.1 hv]; exact ⟨rfl, rfl⟩) rfl (by decide) fun v w4 e4 o4 => ?_
  refine loop_i (fun (st : Cx × Sl) w' => ∃ k, k ≤ x.h ∧ st.1 = cz (n / x.aN ^ k) k ∧ Ext w3 w' ∧ Own w' w3.heap.size st.2 1 (pathTo x n k)) (fun st w' => x.h + 1 - st.2.len) ⟨0, by omega, ?_, e4, ?_⟩ ?_
  · dsimp only
    rw [Nat.pow_zero, Nat.div_one, cz, fw0]
  · show Own w4 w3.heap.size v 1 (pathTo x n 0)
    rw [show pathTo x n 0 = [vC n 0] by simp [pathTo]]; exact o4
  rintro ⟨z, s⟩ w5 again ⟨k, hk, hz5, e5, o5⟩ hag
  dsimp only at hz5 o5 ⊢
  subst hz5
  have hsl : s.len = k + 1 := by have := o5.len; simp [pathTo_len] at this; omega
  have v5 := v3.ext e5
  refine ldSh_i v5 ?_
  dsimp only
  have hin5 := path_in ho hn k
  have hcm := S.Shp.c_max ho k
  refine sAbove_s hr (Nat.lt_of_lt_of_le hin5 (Nat.le_trans hcm (Nat.le_of_ble_eq_true rfl))) (Nat.lt_of_le_of_lt (show k ≤ 34 by omega) (Nat.le_of_ble_eq_true rfl)) (fun h => absurd ⟨hk, hin5⟩ h) (fun htop _ w6 e6 => ?_) fun hlt _ w6 e6 => ?_
  · refine cond_i (fun h => by simp at h) (fun _ => ?_)
    subst htop
    have o6 := o5.ext e6
    have e36 := e5.trans e6
    refine f71_ok ?_
    unfold f71
    have hcap := o6.rd.cap
    refine slClip_i hcap ?_
    exact hOk hr n rfl hn _ w6 (e13.trans e36) o6.rd.clip (by show s.len - 0 = _; omega) fun k hk => by
      have := o6.inB (Sl.cut3_inB hk)
      have := e13.size
      omega
  · refine cond_i (fun _ => ?_) (fun h => by simp at h)
    dsimp only
    have o6 := o5.ext e6
    have e36 := e5.trans e6
    refine append1V_i (vC (n / x.aN ^ k / x.aN) (k + 1)) rfl rfl o6 (by omega) e36.size fun v2 w7 f7 o7 hin7 => ?_
    refine hag _ w7 ⟨k + 1, by omega, ?_, Ext.own e36 f7 fun i hi => (o6.inB hi).1, ?_⟩ ?_
    · dsimp only
      rw [div_pow_succ]
    · dsimp only
      rw [pathTo_succ, div_pow_succ]; exact o7
    · have h7 := o7.len
      simp [pathTo_len] at h7
      dsimp only
      omega
theorem sPath_s {i : Int} {K : Sl → Int → World → Prop} {w : World} (hi : -9223372036854775808 ≤ i ∧ i ≤ 9223372036854775807) (hBad : x.right = false → ∀ w', Ext w w' → K Sl.nil 24 w') (hNo : x.right = true → ¬ (0 ≤ i ∧ i < x.c 0) → ∀ w', Ext w w' → K Sl.nil 13 w')
    (hOk : x.right = true → ∀ n : Nat, i = n → n < x.c 0 → ∀ v w', Ext w w' → Rd w' v 1 (pathTo x n x.h) → v.len = x.h + 1 → K v 0 w') :
    callS Tryz.prog 41 #[.agg #[.int .i64 x.s, .int .i64 x.b, .int .i64 x.d], .int .i64 i] [.one .slc, .one (.int .i64)] K w :=
  sPathO_s hi hBad hNo fun h1 n h2 h3 v w' e r hl _ => hOk h1 n h2 h3 v w' e r hl
end
end Go.Proofs.YteopoodhclljjaaGreatDoor

/-! Plc08d -/
namespace Go.Proofs.YteopoodhclljjaaGreatDoor
open Go Go.Eng
section
variable {x : S.Shp}
def plC (i l : Nat) : List Value := [.int .i64 (i : Int), .int .i64 (l : Int)]
theorem rAbove_s {i l : Nat} {K : Int → Int → Int → World → Prop} {w : World} (o : x.Ok) (hi : i ≤ 4611686018427387904) (hl : l ≤ 4611686018427387904) (hK : ∀ w', Ext w w' → K ((i / x.aN : Nat) : Int) ((l + 1 : Nat) : Int) ((i % x.aN * x.dN : Nat) : Int) w') :
    callS Tryz.prog 68 #[.agg #[.int .i64 x.s, .int .i64 x.b, .int .i64 x.d], .agg #[.int .i64 (i : Int), .int .i64 (l : Int)]] [.agg [.int .i64, .int .i64], .one (.int .i64)] K w := by
  refine f68_ok ?_
  unfold f68
  refine box_i fun g w1 e1 hg v1 => ?_
  have v1 : Var w1 g (shC x) := v1
  refine box_i fun g2 w2 e2 hg2 v2 => ?_
  have v2 : Var w2 g2 (plC i l) := v2
  refine alloc_i fun g3 w3 e3 hg3 v3 => ?_
  have E1 := e2.trans e3
  have E3 := e1.trans E1
  refine ld1_i (l := .int .i64) (o := 1) x.b (v1.ext E1) rfl ?_
  refine ld1_i (l := .int .i64) (o := 2) x.d (v1.ext E1) rfl ?_
  have hdd := o.dd
  have ha1 := o.a1
  have ha2 := o.a2
  refine quo_i (by rw [o.d]; omega) ?_
  rw [aN_i o]
  have hd := Ext.drew w3
  refine ⟨fun y => Ext w2 y, e3.trans hd, ?_⟩
  refine ld1Q_i (l := .int .i64) (o := 0) (i : Int) (fun y hy => v2.ext hy) rfl ?_
  refine quoQ_i (by omega) ?_
  have hq : i / x.aN ≤ i := Nat.div_le_self _ _
  rw [S.tdiv_n, wrap_nat (by omega)]
  refine ld1Q_i (l := .int .i64) (o := 1) (l : Int) (fun y hy => v2.ext hy) rfl ?_
  refine ld1Q_i (l := .int .i64) (o := 0) (i : Int) (fun y hy => v2.ext hy) rfl ?_
  refine remQ_i (by omega) ?_
  rw [S.tmod_n]
  refine ld1Q_i (l := .int .i64) (o := 2) x.d (fun y hy => (v1.ext e2).ext hy) rfl ?_
  have hm := Nat.mod_lt i (show x.aN > 0 by omega)
  have hmd := Nat.mul_le_mul (show i % x.aN ≤ 128 by omega) (show x.dN ≤ 64 by omega)
  rw [o.d, ← Int.natCast_mul, wrap_nat (n := i % x.aN * x.dN) (by omega), show (l : Int) + 1 = ((l + 1 : Nat) : Int) by omega, wrap_nat (n := l + 1) (by omega)]
  refine stV_i (n := 2) (vs := plC (i / x.aN) (l + 1)) 0 (v3.ext hd) rfl (Nat.le_refl 2) (fun v hv => ?_) fun w4 f4 v4 => ?_
  · simp only [plC, List.mem_cons, List.not_mem_nil, or_false] at hv
    rcases hv with rfl | rfl <;> rfl
  have E4 : Ext w2 w4 := Fr.own1 (e3.trans hd) f4 hg3
  refine more_i E4 ?_
  exact resV_i (n := 2) v4 rfl (hK w4 ((e1.trans e2).trans E4))
end
end Go.Proofs.YteopoodhclljjaaGreatDoor

/-! Dsz -/
namespace Go.Proofs.YteopoodhclljjaaGreatDoor
open Go Go.Eng
theorem dsz_s {a : Int} {K : Int → World → Prop} {w : World} (hK : K (S.dsz a) w) : callS Tryz.prog 30 #[.int .i64 a] [.one (.int .i64)] K w := by
  refine f30_ok ?_
  unfold f30
  unfold S.dsz at hK
  refine cond_i (fun h => by rw [if_pos h] at hK; exact hK) (fun h => ?_)
  rw [if_neg (by simp [h])] at hK
  refine cond_i (fun h => by rw [if_pos h] at hK; exact hK) (fun h => ?_)
  rw [if_neg (by simp [h])] at hK; exact hK
theorem rdsz_s {a : Int} {K : Int → World → Prop} {w : World} (hK : K (S.dsz a) w) : callS Tryz.prog 22 #[.int .i64 a] [.one (.int .i64)] K w := by
  refine f22_ok ?_
  unfold f22
  unfold S.dsz at hK
  refine cond_i (fun h => by rw [if_pos h] at hK; exact hK) (fun h => ?_)
  rw [if_neg (by simp [h])] at hK
  refine cond_i (fun h => by rw [if_pos h] at hK; exact hK) (fun h => ?_)
  rw [if_neg (by simp [h])] at hK; exact hK
end Go.Proofs.YteopoodhclljjaaGreatDoor

/-! Cat -/
namespace Go.Proofs.YteopoodhclljjaaGreatDoor
open Go Go.Eng
theorem growNil_s {n : Nat} {K : Sl → World → Prop} {w : World} (hn : n ≤ 68719476736) (hK : ∀ v w', Ext w w' → OwnB w' w.heap.size v [] → K v w') :
    callS Tryz.prog 83 #[.slice none 0 0, .int .i64 (n : Int)] [.one .slc] K w := by
  refine f83_ok (p0 := Sl.nil) ?_
  unfold f83
  have hz : IntKind.wrap .i64 ((n : Int) - (IntKind.wrap .i64 ((Sl.nil.cap : Int) - (Sl.nil.len : Int)))) = (n : Int) := by
    have e : IntKind.wrap .i64 ((Sl.nil.cap : Int) - (Sl.nil.len : Int)) = 0 := by decide
    rw [e, Int.sub_zero, wrap_i64 (by omega) (by omega)]
  rw [hz]
  refine join_i (fun _ w' => w = w') ?_ fun J hJ => cond_i (fun h => ?_) (fun h => hJ () _ rfl)
  rotate_left
  · have : (n : Int) < 0 := of_decide_eq_true h
    omega
  rintro _ w' rfl
  refine cond_i (fun h => ?_) (fun h => hK Sl.nil w (Fr.refl _ _) (Own.nilSl _ _ _))
  refine slHi_i (s := Sl.nil) (hi := ((Sl.nil.cap : Nat) : Int)) (by decide) (by decide) ?_
  have hc : Sl.nil.cut 1 0 ((Sl.nil.cap : Nat) : Int).toNat = Sl.nil := rfl
  rw [hc]
  refine appendZB_i (bs := []) (B := w.heap.size) (Own.nilSl w _ 1) (by omega) (by simp; omega) (Nat.le_refl _) fun v w1 f1 o1 hin => ?_
  refine slHi_i (s := v) (hi := ((Sl.nil.len : Nat) : Int)) (by decide) (by have h0 : ((Sl.nil.len : Nat) : Int) = 0 := rfl
                                                                            omega) ?_
  have e1 : Ext w w1 := Ext.own (Fr.refl _ w) f1 fun i hi => by obtain ⟨a, ha, _⟩ := hi; cases ha
  exact hK (v.cut 1 0 0) w1 e1 (Own.cut0 o1)
theorem concat_s {s : Sl} {xs : List (Sl × List UInt8)} {K : Sl → World → Prop} {w : World} (h : Parts w s xs) (hx : xs.length ≤ 100000) (hl : (flatB xs).length ≤ 68719400000) (hK : ∀ v w', Ext w w' → OwnB w' w.heap.size v (flatB xs) → K v w') :
    callS Tryz.prog 56 #[.slice s.a s.len s.cap] [.one .slc] K w := by
  refine f56_ok ?_
  unfold f56
  have hsl := h.len
  refine loop_i (fun (st : Int × Int) w' => w = w' ∧ ∃ i : Nat, i ≤ xs.length ∧ st = (((flatB (xs.take i)).length : Int), (i : Int))) (fun st _ => xs.length - st.2.toNat) ⟨rfl, 0, by omega, rfl⟩ ?_
  rintro st w' again ⟨rfl, i, hi, rfl⟩ hag
  dsimp only
  refine cond_i (fun hlt => ?_) (fun hge => ?_)
  · have hi' : i < xs.length := by have : (i : Int) < (s.len : Int) := of_decide_eq_true hlt
                                   omega
    refine part_i h (by omega) (by rw [Int.toNat_natCast]; exact hi') ?_
    simp only [Int.toNat_natCast]
    have hbl := Bts.len (h.each _ (List.getElem_mem hi'))
    have hsn := flatB_snoc hi'
    have hle := flatB_take_le xs (i + 1)
    rw [hsn, List.length_append] at hle
    refine cond_i (fun hc => ?_) (fun _ => ?_)
    · have h0 : IntKind.wrap .i64 (((flatB (xs.take i)).length : Int) + (xs[i].1.len : Int)) < 0 := of_decide_eq_true hc
      rw [wrap_i64 (by omega) (by omega)] at h0
      omega
    · rw [wrap_i64 (by omega) (by omega), wrap_i64 (x := (i : Int) + 1) (by omega) (by omega)]
      refine hag _ _ ⟨rfl, i + 1, by omega, ?_⟩ ?_
      · rw [hsn, List.length_append, hbl, Int.natCast_add]; rfl
      · show xs.length - ((i : Int) + 1).toNat < xs.length - ((i : Int)).toNat
        omega
  · have hi' : i = xs.length := by have : ¬ (i : Int) < (s.len : Int) := of_decide_eq_false hge
                                   omega
    subst hi'
    rw [List.take_length]
    refine growNil_s (by omega) fun v w1 e1 o1 => ?_
    refine loop_i (fun (st : Sl × Int) w' => Ext w w' ∧ ∃ i : Nat, i ≤ xs.length ∧ st.2 = i ∧ OwnB w' w.heap.size st.1 (flatB (xs.take i))) (fun st _ => xs.length - st.2.toNat) ⟨e1, 0, by omega, rfl, o1⟩ ?_
    rintro ⟨r, i'⟩ w2 again2 ⟨e2, i, hi, hi2, o2⟩ hag2
    dsimp only at hi2 o2 ⊢
    subst hi2
    refine cond_i (fun hlt => ?_) (fun hge => ?_)
    · have hi' : i < xs.length := by have : (i : Int) < (s.len : Int) := of_decide_eq_true hlt
                                     omega
      have h2 := h.ext e2
      refine part_i h2 (by omega) (by rw [Int.toNat_natCast]; exact hi') ?_
      simp only [Int.toNat_natCast]
      have hb := h2.each _ (List.getElem_mem hi')
      have hsn := flatB_snoc hi'
      have hle := flatB_take_le xs (i + 1)
      rw [hsn, List.length_append] at hle
      refine appendB_i o2 hb (by omega) e2.size fun v3 w3 f3 o3 hin => ?_
      rw [wrap_i64 (x := (i : Int) + 1) (by omega) (by omega)]
      refine hag2 _ w3 ⟨Ext.own e2 f3 fun i hi => (o2.inB hi).1, i + 1, by omega, by omega, by rw [hsn]; exact o3⟩ ?_
      show xs.length - ((i : Int) + 1).toNat < xs.length - ((i : Int)).toNat
      omega
    · have hi' : i = xs.length := by have : ¬ (i : Int) < (s.len : Int) := of_decide_eq_false hge
                                     omega
      subst hi'
      rw [List.take_length] at o2
      exact hK r w2 e2 o2
theorem equal_s {s t : Sl} {xs ys : List UInt8} {K : Bool → World → Prop} {w : World} (hs : Bts w s xs) (ht : Bts w t ys) (hK : K (xs == ys) w) : callS Tryz.prog 51 #[.slice s.a s.len s.cap, .slice t.a t.len t.cap] [.one .bool] K w := by
  refine f51_ok ?_
  unfold f51
  refine b2s_i hs ?_
  refine b2s_i ht ?_
  simp only [str_toList]
  exact hK
end Go.Proofs.YteopoodhclljjaaGreatDoor

/-! Pure09 -/
namespace Go.S
open Go Go.Eng

/-- A digest. -/
def dg (a : Int) (salt x : List UInt8) : List UInt8 := if a = 2 then L.sh3.sum (salt ++ x) else sh2.sum (salt ++ x)
theorem dsz_ne {a : Int} (h : dsz a ≠ 0) : (a = 1 ∧ dsz a = 32) ∨ (a = 2 ∧ dsz a = 64) := by
  unfold dsz at *
  by_cases h1 : a = 1
  · exact .inl ⟨h1, by simp [h1]⟩
  · by_cases h2 : a = 2
    · exact .inr ⟨h2, by simp [h2]⟩
    · simp [h1, h2] at h
theorem dg_len {a : Int} (h : dsz a ≠ 0) (salt x : List UInt8) : (dg a salt x).length = (dsz a).toNat := by
  rcases dsz_ne h with ⟨rfl, h⟩ | ⟨rfl, h⟩
  · rw [h]; exact sum2_len _
  · rw [h]; exact L.sum2_len _
/-- Bytes, filled up with noughts. -/
def fit (B : Nat) (xs : List UInt8) : List UInt8 := xs ++ List.replicate (B - xs.length) 0
theorem fit_len {B : Nat} {xs : List UInt8} (h : xs.length ≤ B) : (fit B xs).length = B := by simp [fit]; omega
theorem fit_full {B : Nat} {xs : List UInt8} (h : B ≤ xs.length) : fit B xs = xs := by simp [fit, show B - xs.length = 0 by omega]
/-- Bytes, filled up to whole blocks. -/
def fills (B : Nat) (xs : List UInt8) : List UInt8 := fit (up xs.length B * B) xs
theorem up_zero {B : Nat} (hB : 1 ≤ B) : up 0 B = 0 := by unfold up; exact Nat.div_eq_of_lt (by omega)
theorem up_lt_add {n B : Nat} (hB : 1 ≤ B) : up n B * B < n + B := by
  have := Nat.div_mul_le_self (n + B - 1) B
  unfold up; omega
theorem up_small {n B : Nat} (h1 : 1 ≤ n) (h : n ≤ B) : up n B = 1 := by
  have h0 : 1 ≤ up n B := up_pos h1 (by omega)
  have h2 : ¬ 1 < up n B := by rw [up_iff (by omega) h1]; omega
  omega
theorem up_more {n B : Nat} (hB : 1 ≤ B) : up (n + B) B = up n B + 1 := by
  unfold up
  rw [show n + B + B - 1 = (n + B - 1) + B by omega, Nat.add_div_right _ (by omega)]
theorem eq_of_lt {a b : Nat} (h : ∀ k, k < a ↔ k < b) : a = b := by
  have h1 := h a
  have h2 := h b
  omega
theorem up_mul {m n D : Nat} (hm : 1 ≤ m) (hn : 1 ≤ n) (hD : 1 ≤ D) : up (m * D) (n * D) = up m n := by
  refine eq_of_lt fun k => ?_
  rw [up_iff (Nat.mul_pos (by omega) (by omega)) (Nat.mul_pos (by omega) (by omega)), up_iff hn hm, ← Nat.mul_assoc]
  exact Nat.mul_lt_mul_right (by omega)
/-- Bytes, filled up, are their blocks, each filled up. -/
theorem chunks {B : Nat} (hB : 1 ≤ B) : ∀ (n : Nat) (xs : List UInt8), xs.length ≤ n → fills B xs = (List.range (up xs.length B)).flatMap fun i => fit B ((xs.drop (i * B)).take B)
  | 0, xs, h => by
    obtain rfl := List.length_eq_zero_iff.1 (Nat.le_zero.1 h)
    simp [fills, fit, up_zero hB]
  | n + 1, xs, h => by
    rcases Nat.eq_zero_or_pos xs.length with h0 | h0
    · obtain rfl := List.length_eq_zero_iff.1 h0
      simp [fills, fit, up_zero hB]
    rcases Nat.lt_or_ge B xs.length with hl | hl
    · have hd : (xs.drop B).length = xs.length - B := List.length_drop
      have ih := chunks hB n (xs.drop B) (by omega)
      have hu : up xs.length B = up (xs.drop B).length B + 1 := by rw [← up_more hB, hd]; congr 1; omega
      have hcat : fills B xs = xs.take B ++ fills B (xs.drop B) := by
        unfold fills fit
        rw [hu, ← List.append_assoc, List.take_append_drop, hd, Nat.succ_mul]
        congr 2; omega
      rw [hcat, ih, hu, List.range_succ_eq_map, List.flatMap_cons, List.flatMap_map]
      congr 1
      · rw [Nat.zero_mul, List.drop_zero, fit_full (by rw [List.length_take]; omega)]
      · congr 1; funext i
        rw [List.drop_drop, Nat.succ_mul, Nat.add_comm B]
    · rw [up_small h0 hl]
      simp [fills, up_small h0 hl, List.take_of_length_le hl]
/-! ### rows of pieces of one length -/
theorem flat_len {f : Nat → List UInt8} {D : Nat} (hf : ∀ k, (f k).length = D) : ∀ m, ((List.range m).flatMap f).length = m * D
  | 0 => by simp
  | m + 1 => by rw [List.range_succ, List.flatMap_append, List.length_append, flat_len hf m, Nat.succ_mul]; simp [hf]
theorem flat_drop {f : Nat → List UInt8} {D : Nat} (hf : ∀ k, (f k).length = D) (m j : Nat) : ((List.range m).flatMap f).drop (j * D) = (List.range (m - j)).flatMap fun k => f (j + k) := by
  rcases Nat.le_total j m with h | h
  · obtain ⟨r, rfl⟩ : ∃ r, m = j + r := ⟨m - j, by omega⟩
    rw [List.range_add, List.flatMap_append, List.drop_append_of_le_length (by rw [flat_len hf]; exact Nat.le_refl _), List.drop_of_length_le (by rw [flat_len hf]; exact Nat.le_refl _), List.nil_append, List.flatMap_map, Nat.add_sub_cancel_left]
  · rw [List.drop_of_length_le (by rw [flat_len hf]; exact Nat.mul_le_mul_right _ h), show m - j = 0 by omega]; rfl
theorem flat_take {f : Nat → List UInt8} {D : Nat} (hf : ∀ k, (f k).length = D) (m j : Nat) : ((List.range m).flatMap f).take (j * D) = (List.range (min j m)).flatMap f := by
  rcases Nat.le_total j m with h | h
  · obtain ⟨r, rfl⟩ : ∃ r, m = j + r := ⟨m - j, by omega⟩
    rw [List.range_add, List.flatMap_append, List.take_append_of_le_length (by rw [flat_len hf]; exact Nat.le_refl _), List.take_of_length_le (by rw [flat_len hf]; exact Nat.le_refl _), Nat.min_eq_left (by omega)]
  · rw [List.take_of_length_le (by rw [flat_len hf]; exact Nat.mul_le_mul_right _ h), Nat.min_eq_right h]
theorem flat_one {f : Nat → List UInt8} {D : Nat} (hf : ∀ k, (f k).length = D) {m i : Nat} (hi : i < m) : (((List.range m).flatMap f).drop (i * D)).take D = f i := by
  rw [flat_drop hf, show D = 1 * D by omega, flat_take (fun k => hf (i + k)), show min 1 (m - i) = 1 by omega]
  simp
namespace Shp
/-- A tree's blocks, over data. -/
def blk (x : Shp) (H : List UInt8 → List UInt8) (data : List UInt8) : Nat → Nat → List UInt8
  | 0, i => fit x.bN ((data.drop (i * x.bN)).take x.bN)
  | l + 1, i => fit x.bN ((List.range (min x.aN (x.c l - i * x.aN))).flatMap fun k => H (x.blk H data l (i * x.aN + k)))
def lev (x : Shp) (H : List UInt8 → List UInt8) (data : List UInt8) (l : Nat) : List UInt8 := (List.range (x.c l)).flatMap (x.blk H data l)
/-- The levels from one on down to the first above the data. -/
def tr (x : Shp) (H : List UInt8 → List UInt8) (data : List UInt8) : Nat → List UInt8
  | 0 => []
  | l + 1 => x.lev H data (l + 1) ++ x.tr H data l
def tree (x : Shp) (H : List UInt8 → List UInt8) (data : List UInt8) : List UInt8 := x.tr H data x.h
def root (x : Shp) (H : List UInt8 → List UInt8) (data : List UInt8) : List UInt8 := H (x.blk H data x.h 0)
variable {x : Shp} {H : List UInt8 → List UInt8} {data : List UInt8}
theorem blk_len (o : x.Ok) (hH : ∀ y, (H y).length = x.dN) : ∀ l i, (x.blk H data l i).length = x.bN
  | 0, i => fit_len (by rw [List.length_take]; omega)
  | l + 1, i => fit_len (by rw [flat_len (f := fun k => H (x.blk H data l (i * x.aN + k))) (fun k => hH _), o.ba]; exact Nat.mul_le_mul_right _ (Nat.min_le_left _ _))
theorem lev_len (o : x.Ok) (hH : ∀ y, (H y).length = x.dN) (l : Nat) : (x.lev H data l).length = x.c l * x.bN := flat_len (blk_len o hH l) _
theorem lev_zero (o : x.Ok) (hd : data.length = x.sN) : x.lev H data 0 = fills x.bN data := by
  rw [chunks (by have := o.b1; omega) data.length data (Nat.le_refl _), hd]; rfl
/-- The digests of a level's blocks. -/
def digs (x : Shp) (H : List UInt8 → List UInt8) (data : List UInt8) (l i : Nat) : List UInt8 := (List.range i).flatMap fun i => H (x.blk H data l i)
theorem digs_succ (l i : Nat) : x.digs H data l (i + 1) = x.digs H data l i ++ H (x.blk H data l i) := by
  unfold digs; rw [List.range_succ, List.flatMap_append]; simp
theorem digs_len (hH : ∀ y, (H y).length = x.dN) (l i : Nat) : (x.digs H data l i).length = i * x.dN := flat_len (fun k => hH _) _
theorem lev_succ (o : x.Ok) (hH : ∀ y, (H y).length = x.dN) (l : Nat) : x.lev H data (l + 1) = fills x.bN (x.digs H data l (x.c l)) := by
  have hb := o.b1
  have hD : 1 ≤ x.dN := by rcases o.dd with h | h <;> omega
  have hf : ∀ k, ((fun i => H (x.blk H data l i)) k).length = x.dN := fun k => hH _
  rw [chunks (by omega) _ _ (Nat.le_refl _), digs_len hH]
  unfold lev
  rw [show up (x.c l * x.dN) x.bN = x.c (l + 1) by rw [o.ba]; exact up_mul (c_pos o l) (by have := o.a1; omega) hD]
  congr 1; funext i
  show fit x.bN _ = _
  congr 1
  unfold digs
  rw [show i * x.bN = (i * x.aN) * x.dN by rw [o.ba, Nat.mul_assoc], flat_drop hf]
  conv => rhs; rw [o.ba]
  rw [flat_take (fun k => hf _)]
theorem lev_cut (o : x.Ok) (hH : ∀ y, (H y).length = x.dN) {l i : Nat} (hi : i < x.c l) : ((x.lev H data l).drop (i * x.bN)).take x.bN = x.blk H data l i := flat_one (blk_len o hH l) hi
theorem lev_top (o : x.Ok) : x.lev H data x.h = x.blk H data x.h 0 := by unfold lev; rw [h_top o]; simp
theorem tr_len (o : x.Ok) (hH : ∀ y, (H y).length = x.dN) : ∀ l, (x.tr H data l).length ≤ l * (x.c 0 * x.bN)
  | 0 => by simp [tr]
  | l + 1 => by
    rw [tr, List.length_append, lev_len o hH, Nat.succ_mul]
    have h1 := tr_len o hH l
    have h2 := Nat.mul_le_mul_right x.bN (c_anti o (j := 0) (k := l + 1) (by omega))
    omega
theorem c0_le (o : x.Ok) : x.c 0 * x.bN < x.sN + x.bN := up_lt_add (by have := o.b1; omega)
end Shp
theorem pad_fills {xs : List UInt8} {B : Nat} (h1 : 1 ≤ B) (h2 : B ≤ 65536) (hl : xs.length ≤ 68719400000) : pad xs (B : Int) = (fills B xs, 0) := by
  have ha : align (xs.length : Int) (B : Int) = (((up xs.length B * B : Nat) : Int), 0) := by
    unfold align
    have e : ((xs.length : Int) + (B : Int) - 1) / (B : Int) * (B : Int) = ((up xs.length B * B : Nat) : Int) := by
      unfold up
      rw [show (xs.length : Int) + (B : Int) - 1 = ((xs.length + B - 1 : Nat) : Int) by omega]
      rfl
    have := up_lt_add (n := xs.length) h1
    rw [if_neg (by omega), if_neg (by omega), e, if_pos (by omega)]
  unfold pad
  rw [ha, if_neg (fun h => h rfl)]
  dsimp only
  rw [Int.toNat_natCast]; rfl
end Go.S

/-! Pure09b -/
namespace Go.S
open Go Go.Eng
namespace Shp
variable {s s' b d : Int} {H : List UInt8 → List UInt8} {data data' : List UInt8}
variable {x : Shp}
/-- A block's digest stands in the block above. -/
theorem blk_dig (o : x.Ok) (hH : ∀ y, (H y).length = x.dN) {l i : Nat} (hi : i < x.c l) : ((x.blk H data (l + 1) (i / x.aN)).drop (i % x.aN * x.dN)).take x.dN = H (x.blk H data l i) := by
  have ha := o.a1
  have hm := Nat.mod_lt i (show x.aN > 0 by omega)
  have e := Nat.div_add_mod i x.aN
  rw [Nat.mul_comm] at e
  have hlt : i % x.aN < min x.aN (x.c l - i / x.aN * x.aN) := by omega
  have hf : ∀ k, ((fun k => H (x.blk H data l (i / x.aN * x.aN + k))) k).length = x.dN := fun k => hH _
  have hfl := flat_len hf (min x.aN (x.c l - i / x.aN * x.aN))
  have hle := Nat.mul_le_mul_right x.dN (show i % x.aN + 1 ≤ min x.aN (x.c l - i / x.aN * x.aN) by omega)
  rw [Nat.succ_mul] at hle
  show ((fit _ _).drop _).take _ = _
  unfold fit
  rw [List.drop_append_of_le_length (by omega), List.take_append_of_le_length (by rw [List.length_drop]; omega), flat_one hf hlt, e]
/-- The blocks on a path. -/
def onPath (x : Shp) (H : List UInt8 → List UInt8) (data : List UInt8) (i : Nat) : List (List UInt8) := (List.range (x.h + 1)).map fun k => x.blk H data k (i / x.aN ^ k)
theorem onPath_len (i : Nat) : (x.onPath H data i).length = x.h + 1 := by simp [onPath]
theorem onPath_get {i k : Nat} (hk : k ≤ x.h) : (x.onPath H data i)[k]? = some (x.blk H data k (i / x.aN ^ k)) := by
  unfold onPath; rw [List.getElem?_map, List.getElem?_range (by omega)]; rfl
end Shp
end Go.S

/-! Tab09 -/
namespace Go.Proofs.YteopoodhclljjaaGreatDoor
open Go Go.Eng
theorem tabs_of {laid : List (String × DataW Unit)} {W : World} (h : laidMet Tryz.prog laid W) (h1 : ("sallyport/shortsum.first", Go.Lib.tabData .u32 S.sh2.H) ∈ laid) (h2 : ("sallyport/shortsum.rounds", Go.Lib.tabData .u32 S.sh2.K) ∈ laid) : Tabs W :=
  ⟨var_of_laid h h1 (by kernel_rfl) (show _ = some 171 by kernel_rfl) Tryz.underlying171 Tryz.underlying159 (by kernel_rfl) (by kernel_rfl) (by decide),
   var_of_laid h h2 (by kernel_rfl) (show _ = some 183 by kernel_rfl) Tryz.underlying183 Tryz.underlying159 (by kernel_rfl) (by kernel_rfl) (by decide)⟩
namespace L
theorem tabsL_of {laid : List (String × DataW Unit)} {W : World} (h : laidMet Tryz.prog laid W) (h1 : ("sallyport/longsum.first", Go.Lib.tabData .u64 S.L.sh3.H) ∈ laid) (h2 : ("sallyport/longsum.rounds", Go.Lib.tabData .u64 S.L.sh3.K) ∈ laid) : Tabs W :=
  ⟨var_of_laid h h1 (by kernel_rfl) (show _ = some 168 by kernel_rfl) Tryz.underlying168 Tryz.underlying162 (by kernel_rfl) (by kernel_rfl) (by decide),
   var_of_laid h h2 (by kernel_rfl) (show _ = some 181 by kernel_rfl) Tryz.underlying181 Tryz.underlying162 (by kernel_rfl) (by kernel_rfl) (by decide)⟩
end L
end Go.Proofs.YteopoodhclljjaaGreatDoor
