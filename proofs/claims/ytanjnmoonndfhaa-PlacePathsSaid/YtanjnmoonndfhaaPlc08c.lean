/- Layer 8 (place): places: their parts, the place above, where a block begins, paths. -/
import Derived.Test.YtanjnmoonndfhaaPlc08b
set_option linter.unusedSimpArgs false
set_option linter.unusedVariables false
namespace Go.Eng
open Go
theorem slClip_i {P : Program} {w : World} {t e sz : Nat} {z : Value} [h : SliceTy P t e sz z] {s : Sl} {K : Sl → World → Prop} (hc : s.len ≤ s.cap) (hK : K (s.cut3 sz 0 s.len s.len) w) :
    semS P (Instr.sliceAt t (.slice s.a s.len s.cap) none (some (.int .i64 (s.len : Int))) (some (.int .i64 (s.len : Int)))) (.one .slc) K w := by
  refine ⟨Lf.enc .slc (s.cut3 sz 0 s.len s.len), w, ?_, one_dec (l := .slc) hK⟩
  have hb : ∀ c, (Instr.sliceBound (.int .i64 (s.len : Int)) s.cap c).run P w = .ok s.len w := fun c => by have := run_sliceBound (P := P) (w := w) (k := .i64) (i := (s.len : Int)) (y := s.cap) (c := c) (by omega) (by omega); rwa [Int.toNat_natCast] at this
  have hb1 : ∀ c, (Instr.sliceBound (.int .i64 (s.len : Int)) s.len c).run P w = .ok s.len w := fun c => by have := run_sliceBound (P := P) (w := w) (k := .i64) (i := (s.len : Int)) (y := s.len) (c := c) (by omega) (by omega); rwa [Int.toNat_natCast] at this
  simp [Instr.sliceAt, Instr.slice, run_underlying h.und, Instr.sliceBounds, hb, hb1, sizeOf_elem (t := t) (sz := sz), Sl.cut3, Lf.enc]
theorem Rd.clip {w : World} {s : Sl} {sz : Nat} {cs : List Value} (h : Rd w s sz cs) : Rd w (s.cut3 sz 0 s.len s.len) sz cs := by
  refine ⟨h.len, Nat.le_refl _, fun hn => ?_, fun b hb i v hv => ?_⟩
  · have h0 : s.len = 0 := by
      have : s.a = none := by
        by_cases h0 : s.len = 0
        · simpa [Sl.cut3, h0] using hn
        · simpa [Sl.cut3, h0] using hn
      exact (h.nil this).1
    exact ⟨h0, h0⟩
  · by_cases h0 : s.len = 0
    · have := h.len
      rw [h0, Nat.zero_mul] at this
      rw [List.length_eq_zero_iff.1 this] at hv
      cases hv
    · have hb' : s.a.map (·.add (0 * sz)) = Option.some b := by simpa [Sl.cut3, h0] using hb
      obtain ⟨a, ha, rfl⟩ := Option.map_eq_some_iff.1 hb'
      rw [add_add', Nat.zero_mul, Nat.zero_add]
      exact h.cells a ha i v hv
end Go.Eng
namespace Go.Proofs.Ytanjnmoonndfhaa
open Go Go.Eng
/-- A place as a complex number. -/
abbrev cz (i l : Nat) : Cx := ⟨fw i, fw l⟩
def vC (i l : Nat) : Value := .complex .f64 (fw i) (fw l)
theorem fwMax : fw 1099511627776 = 4787326403894837248 := by decide +kernel
theorem isWMax : IsW 4787326403894837248 1099511627776 := by rw [← fwMax]; exact isW_fw (by decide)
section
variable {x : S.Shp}
theorem parts_s {i l : Nat} {K : Int → Int → Int → World → Prop} {w : World} (o : x.Ok) (hi : i < 2 ^ 53) (hl : l < 2 ^ 53) (hBad : ¬ (l ≤ x.h ∧ i < x.c l) → ∀ w', Ext w w' → K 0 0 13 w') (hOk : l ≤ x.h → i < x.c l → ∀ w', Ext w w' → K (i : Int) (l : Int) 0 w') :
    callS Try.prog 25 #[.agg #[.int .i64 x.s, .int .i64 x.b, .int .i64 x.d], .complex .f64 (fw i) (fw l)] [.one (.int .i64), .one (.int .i64), .one (.int .i64)] K w := by
  refine f25_ok (p1 := cz i l) ?_
  unfold f25
  refine box_i fun g w1 e1 hg v1 => ?_
  have v1 : Var w1 g (shC x) := v1
  refine ldSh_i v1 ?_
  refine counts_s o fun v w2 e2 o2 => ?_
  have hvl : v.len = x.h + 1 := by have := o2.len; simp [S.Shp.cs_len] at this; omega
  have hh := S.Shp.h_le o
  have e12 := e1.trans e2
  dsimp only
  have hv53 : v.len < 2 ^ 53 := Nat.lt_of_le_of_lt (show v.len ≤ 35 by omega) (by decide)
  rw [ge_W (isW_fw hi) isW0, le_W (isW_fw hi) isWMax, ge_W (isW_fw hl) isW0, show FloatKind.nearest .f64 (v.len : Int) = fw v.len from rfl, lt_W (isW_fw hl) (isW_fw hv53)]
  have hcm := S.Shp.c_max o l
  refine cond_i (fun hc => ?_) (fun hc => ?_)
  · refine hBad (fun h => ?_) w2 e12
    rw [decide_eq_true (Nat.zero_le i), decide_eq_true (Nat.zero_le l), decide_eq_true (show i ≤ 1099511627776 by omega), decide_eq_true (show l < v.len by omega)] at hc
    cases hc
  · have hc' := not_f hc
    simp only [Bool.and_eq_true, decide_eq_true_eq] at hc'
    obtain ⟨⟨⟨_, hi1⟩, _⟩, hl1⟩ := hc'
    refine f2i_i (by kernel_rfl) (by kernel_rfl) (isW_fw hi) (by omega) ?_
    refine f2i_i (by kernel_rfl) (by kernel_rfl) (isW_fw hl) (by omega) ?_
    have hlh : l ≤ x.h := by omega
    refine join_i (fun b w' => b = decide (x.c l ≤ i) ∧ w2 = w') ?_ fun J hJ => ?_
    · rintro b w' ⟨rfl, rfl⟩
      refine cond_i (fun h => ?_) (fun h => ?_)
      · have := of_decide_eq_true h
        exact hBad (fun h => by omega) w2 e12
      · have := of_decide_eq_false h
        exact hOk hlh (by omega) w2 e12
    · rw [show FloatKind.nearest .f64 (i : Int) = fw i from rfl, show FloatKind.nearest .f64 (l : Int) = fw l from rfl, fcEq_W (isW_fw hi) (isW_fw hi), fcEq_W (isW_fw hl) (isW_fw hl)]
      refine cond_i (fun h => by simp at h) (fun _ => ?_)
      refine elem_i (l := .int .i64) (x := (x.c l : Int)) o2.rd (by omega) (by omega) (by rw [Int.toNat_natCast, List.getElem?_map, S.Shp.cs_get hlh]; rfl) ?_
      refine hJ _ _ ⟨?_, rfl⟩
      exact decide_eq_decide.2 (show (i : Int) ≥ (x.c l : Int) ↔ x.c l ≤ i by omega)
theorem sAbove_s {i l : Nat} {K : Cx → Int → Int → World → Prop} {w : World} (o : x.right = true) (hi : i < 2 ^ 52) (hl : l < 2 ^ 52) (hBad : ¬ (l ≤ x.h ∧ i < x.c l) → ∀ w', Ext w w' → K ⟨0, 0⟩ 0 13 w')
    (hTop : l = x.h → i < x.c l → ∀ w', Ext w w' → K ⟨0, 0⟩ 0 51 w') (hOk : l < x.h → i < x.c l → ∀ w', Ext w w' → K (cz (i / x.aN) (l + 1)) ((i % x.aN * x.dN : Nat) : Int) 0 w') :
    callS Try.prog 21 #[.agg #[.int .i64 x.s, .int .i64 x.b, .int .i64 x.d], .complex .f64 (fw i) (fw l)] [.one .cpx, .one (.int .i64), .one (.int .i64)] K w := by
  refine f21_ok (p1 := cz i l) ?_
  unfold f21
  have ho := S.Shp.ok_of o
  refine box_i fun g w1 e1 hg v1 => ?_
  have v1 : Var w1 g (shC x) := v1
  refine ldSh_i v1 ?_
  refine sRight_s fun w2 e2 => ?_
  have e12 := e1.trans e2
  have v2 := v1.ext e2
  rw [o]
  refine cond_i (fun h => by cases h) (fun _ => ?_)
  refine ldSh_i v2 ?_
  dsimp only
  have h53 : i < 2 ^ 53 := Nat.lt_trans hi (by decide)
  have l53 : l < 2 ^ 53 := Nat.lt_trans hl (by decide)
  refine parts_s ho h53 l53 (fun hn w3 e3 => ?_) fun hlh hic w3 e3 => ?_
  · refine cond_i (fun _ => hBad hn w3 (e12.trans e3)) (fun h => by simp at h)
  refine cond_i (fun h => by simp at h) (fun _ => ?_)
  have v3 := v2.ext e3
  refine ldSh_i v3 ?_
  refine counts_s ho fun v w4 e4 o4 => ?_
  have hvl : v.len = x.h + 1 := by have := o4.len; simp [S.Shp.cs_len] at this; omega
  have hh := S.Shp.h_le ho
  have e14 := (e12.trans e3).trans e4
  have v4 := v3.ext e4
  refine elem_i (l := .int .i64) (x := (x.c l : Int)) o4.rd (by omega) (by omega) (by rw [Int.toNat_natCast, List.getElem?_map, S.Shp.cs_get hlh]; rfl) ?_
  have ha1 := ho.a1
  have ha2 := ho.a2
  have hdd := ho.dd
  have hcm := S.Shp.c_max ho l
  refine cond_i (fun h1 => ?_) (fun h1 => ?_)
  · have h1' : x.c l = 1 := by have h2 : (x.c l : Int) = 1 := by simpa using h1
                               omega
    refine hTop ?_ hic w4 e14
    have := (S.Shp.h_iff ho (k := l)).1 (by omega)
    omega
  · have h1' : x.c l ≠ 1 := by
      intro h2
      rw [h2] at h1
      simp at h1
    have hlt : l < x.h := by
      apply Classical.byContradiction
      intro hn
      have := (S.Shp.h_iff ho (k := l)).2 (by omega)
      have := S.Shp.c_pos ho l
      omega
    have hd := Ext.drew w4
    refine ⟨fun y => Ext w4 y, hd, ?_⟩
    refine ldShQ_i (x := x) (fun y hy => v4.ext hy) ?_
    refine ldShQ_i (x := x) (fun y hy => v4.ext hy) ?_
    refine ld1Q_i (l := .int .i64) (o := 2) x.d (fun y hy => v4.ext hy) rfl ?_
    refine arity_s ho fun w5 e5 => ?_
    refine more_i (hd.trans e5) ?_
    refine quoQ_i (by omega) ?_
    have hq : i / x.aN ≤ i := Nat.div_le_self _ _
    rw [S.tdiv_n, wrap_nat (by omega)]
    have hq53 : i / x.aN < 2 ^ 53 := Nat.lt_of_le_of_lt hq h53
    have hl1 : l + 1 < 2 ^ 53 := by
      rw [show (2 : Nat) ^ 53 = 2 ^ 52 + 2 ^ 52 from rfl]
      have : 1 ≤ 2 ^ 52 := Nat.le_of_ble_eq_true rfl
      omega
    refine caddQ_i (n := i / x.aN) (m := l) (k := 0) (l := 1) (isW_fw hq53) (isW_fw l53) isW0 isW1 hq53 hl1 ?_
    refine arity_s ho fun w6 e6 => ?_
    refine more_i ((hd.trans e5).trans e6) ?_
    refine remQ_i (by omega) ?_
    rw [S.tmod_n, ho.d, ← Int.natCast_mul]
    have hm := Nat.mod_lt i (show x.aN > 0 by omega)
    have hmd := Nat.mul_le_mul (show i % x.aN ≤ 128 by omega) (show x.dN ≤ 64 by omega)
    rw [wrap_nat (by omega), Nat.add_zero]
    exact hOk hlt hic _ (((e14.trans hd).trans e5).trans e6)
theorem sOffset_s {i l : Nat} {K : Int → Int → World → Prop} {w : World} (o : x.right = true) (hi : i < 2 ^ 53) (hl : l < 2 ^ 53) (hBad : ¬ (1 ≤ l ∧ l ≤ x.h ∧ i < x.c l) → ∀ w', Ext w w' → K 0 13 w')
    (hOk : 1 ≤ l → l ≤ x.h → i < x.c l → ∀ w', Ext w w' → K (((i + x.sumA l) * x.bN : Nat) : Int) 0 w') :
    callS Try.prog 16 #[.agg #[.int .i64 x.s, .int .i64 x.b, .int .i64 x.d], .complex .f64 (fw i) (fw l)] [.one (.int .i64), .one (.int .i64)] K w := by
  refine f16_ok (p1 := cz i l) ?_
  unfold f16
  have ho := S.Shp.ok_of o
  refine box_i fun g w1 e1 hg v1 => ?_
  have v1 : Var w1 g (shC x) := v1
  refine ldSh_i v1 ?_
  refine sRight_s fun w2 e2 => ?_
  have e12 := e1.trans e2
  have v2 := v1.ext e2
  rw [o]
  refine cond_i (fun h => by cases h) (fun _ => ?_)
  refine ldSh_i v2 ?_
  dsimp only
  refine parts_s ho hi hl (fun hn w3 e3 => ?_) fun hlh hic w3 e3 => ?_
  · refine cond_i (fun _ => hBad (fun h => hn h.2) w3 (e12.trans e3)) (fun h => by simp at h)
  have hh := S.Shp.h_le ho
  have hcm := S.Shp.c_max ho l
  refine cond_i (fun h => ?_) (fun h => ?_)
  · refine hBad (fun h2 => ?_) w3 (e12.trans e3)
    have h3 : (l : Int) = 0 := by simpa using h
    omega
  have hl1 : 1 ≤ l := by
    apply Classical.byContradiction
    intro h2
    have h3 : l = 0 := by omega
    rw [h3] at h
    simp at h
  have v3 := v2.ext e3
  refine ldSh_i v3 ?_
  refine counts_s ho fun v w4 e4 o4 => ?_
  have hvl : v.len = x.h + 1 := by have := o4.len; simp [S.Shp.cs_len] at this; omega
  have v4 := v3.ext e4
  rw [show (l : Int) + 1 = ((l + 1 : Nat) : Int) by omega, wrap_nat (by omega)]
  refine slLo_i (by omega) (by omega) ?_
  rw [Int.toNat_natCast]
  have hr3 := Rd.cut o4.rd (l := l + 1) (hi := v.len) (by omega) (Nat.le_refl _)
  rw [Nat.mul_one, Nat.mul_one, ← List.map_drop, ← List.map_take, List.take_of_length_le (by rw [List.length_drop, S.Shp.cs_len]; omega)] at hr3
  refine sumL_s (a0 := i) (i0 := 0) hr3 (by rw [List.length_drop, S.Shp.cs_len]; omega) (fun y hy => S.Shp.cs_mem ho (List.mem_of_mem_drop hy)) (by omega) (by omega) ?_
  refine ld1_i (l := .int .i64) (o := 1) x.b v4 rfl ?_
  rw [List.drop_zero]
  have hs : (x.cs.drop (l + 1)).sum = x.sumA l := rfl
  rw [hs]
  dsimp only
  rw [mulB_i ho (by have := S.Shp.sumA_le ho l; omega)]
  exact hOk hl1 hlh hic w4 ((e12.trans e3).trans e4)
/-- The places from a block up to a level. -/
def pathTo (x : S.Shp) (i k : Nat) : List Value := (List.range (k + 1)).map fun j => vC (i / x.aN ^ j) j
theorem pathTo_succ (i k : Nat) : pathTo x i (k + 1) = pathTo x i k ++ [vC (i / x.aN ^ (k + 1)) (k + 1)] := by
  unfold pathTo
  rw [List.range_succ (n := k + 1), List.map_append]; rfl
theorem pathTo_len (i k : Nat) : (pathTo x i k).length = k + 1 := by simp [pathTo]
theorem pathTo_get {i k j : Nat} (h : j ≤ k) : (pathTo x i k)[j]? = some (vC (i / x.aN ^ j) j) := by
  unfold pathTo
  rw [List.getElem?_map, List.getElem?_range (by omega)]; rfl
theorem div_pow_succ (i a k : Nat) : i / a ^ (k + 1) = i / a ^ k / a := by rw [Nat.pow_succ, Nat.div_div_eq_div_mul]
/-- The place above a place is one. -/
theorem above_in (o : x.Ok) {i k : Nat} (h : i < x.c k) : i / x.aN < x.c (k + 1) := by
  show i / x.aN < S.up (x.c k) x.aN
  rw [S.up_iff (by have := o.a1; omega) (S.Shp.c_pos o k)]
  have h1 : i / x.aN * x.aN ≤ i := Nat.div_mul_le_self _ _
  omega
theorem path_in (o : x.Ok) {i : Nat} (h : i < x.c 0) : ∀ k, i / x.aN ^ k < x.c k
  | 0 => by rw [Nat.pow_zero, Nat.div_one]; exact h
  | k + 1 => by rw [div_pow_succ]; exact above_in o (path_in o h k)
theorem sPath_s {i : Int} {K : Sl → Int → World → Prop} {w : World} (hi : -9223372036854775808 ≤ i ∧ i ≤ 9223372036854775807) (hBad : x.right = false → ∀ w', Ext w w' → K Sl.nil 24 w') (hNo : x.right = true → ¬ (0 ≤ i ∧ i < x.c 0) → ∀ w', Ext w w' → K Sl.nil 13 w')
    (hOk : x.right = true → ∀ n : Nat, i = n → n < x.c 0 → ∀ v w', Ext w w' → Rd w' v 1 (pathTo x n x.h) → v.len = x.h + 1 → K v 0 w') :
    callS Try.prog 17 #[.agg #[.int .i64 x.s, .int .i64 x.b, .int .i64 x.d], .int .i64 i] [.one .slc, .one (.int .i64)] K w := by
  refine f17_ok ?_
  unfold f17
  refine box_i fun g w1 e1 hg v1 => ?_
  have v1 : Var w1 g (shC x) := v1
  refine ldSh_i v1 ?_
  refine sRight_s fun w2 e2 => ?_
  have e12 := e1.trans e2
  have v2 := v1.ext e2
  refine cond_i (fun h => hBad (by simpa using h) w2 e12) (fun h => ?_)
  have hr : x.right = true := by simpa using h
  have ho := S.Shp.ok_of hr
  have hc0 := S.Shp.c_max ho 0
  have hh := S.Shp.h_le ho
  refine join_i (fun b w' => b = (!decide (0 ≤ i ∧ i < x.c 0)) ∧ Ext w2 w') ?_ fun J hJ => ?_
  rotate_left
  · refine cond_i (fun h => ?_) (fun h => ?_)
    · have : i < 0 := of_decide_eq_true h
      exact hJ _ _ ⟨by rw [decide_eq_false (fun h => by omega)]; rfl, Fr.refl _ _⟩
    · have h0 : ¬ i < 0 := of_decide_eq_false h
      refine ldSh_i v2 ?_
      refine counts_s ho fun v w3 e3 o3 => ?_
      have hvl : v.len = x.h + 1 := by have := o3.len; simp [S.Shp.cs_len] at this; omega
      refine elem_i (l := .int .i64) (x := (x.c 0 : Int)) o3.rd (by omega) (by omega) (by rw [show (0 : Int).toNat = 0 from rfl, List.getElem?_map, S.Shp.cs_get (Nat.zero_le _)]; rfl) ?_
      refine hJ _ _ ⟨?_, e3⟩
      rw [← decide_not]
      exact decide_eq_decide.2 (show i ≥ (x.c 0 : Int) ↔ ¬ (0 ≤ i ∧ i < x.c 0) by omega)
  rintro b w3 ⟨rfl, e3⟩
  have e13 := e12.trans e3
  refine cond_i (fun h => hNo hr (fun hh => by rw [decide_eq_true hh] at h; cases h) w3 e13) (fun h => ?_)
  have hin : 0 ≤ i ∧ i < x.c 0 := by simpa using h
  obtain ⟨n, rfl⟩ : ∃ n : Nat, i = n := ⟨i.toNat, by omega⟩
  have hn : n < x.c 0 := by omega
  have v3 := v2.ext e3
  rw [show FloatKind.nearest .f64 ((n : Nat) : Int) = fw n from rfl]
  have hz : (0 : Nat) = fw 0 := fw0.symm
  refine buildV_i [vC n 0] (by rw [vC, fw0]; rfl) (fun v hv => by rw [List.mem_singleton.1 hv]; exact ⟨rfl, rfl⟩) rfl (by decide) fun v w4 e4 o4 => ?_
  refine loop_i (fun (st : Cx × Sl) w' => ∃ k, k ≤ x.h ∧ st.1 = cz (n / x.aN ^ k) k ∧ Ext w3 w' ∧ Own w' w3.heap.size st.2 1 (pathTo x n k)) (fun st w' => x.h + 1 - st.2.len) ⟨0, by omega, ?_, e4, ?_⟩ ?_
  · dsimp only
    rw [Nat.pow_zero, Nat.div_one, cz, fw0]
  · show Own w4 w3.heap.size v 1 (pathTo x n 0)
    rw [show pathTo x n 0 = [vC n 0] by simp [pathTo]]; exact o4
  rintro ⟨z, s⟩ w5 again ⟨k, hk, hz5, e5, o5⟩ hag
  dsimp only at hz5 o5 ⊢
  subst hz5
  have hsl : s.len = k + 1 := by have := o5.len; simp [pathTo_len] at this; omega
  have v5 := v3.ext e5
  refine ldSh_i v5 ?_
  dsimp only
  have hin5 := path_in ho hn k
  have hcm := S.Shp.c_max ho k
  refine sAbove_s hr (Nat.lt_of_lt_of_le hin5 (Nat.le_trans hcm (Nat.le_of_ble_eq_true rfl))) (Nat.lt_of_le_of_lt (show k ≤ 34 by omega) (Nat.le_of_ble_eq_true rfl)) (fun h => absurd ⟨hk, hin5⟩ h) (fun htop _ w6 e6 => ?_) fun hlt _ w6 e6 => ?_
  · refine cond_i (fun h => by simp at h) (fun _ => ?_)
    subst htop
    have o6 := o5.ext e6
    have e36 := e5.trans e6
    refine f26_ok ?_
    unfold f26
    have hcap := o6.rd.cap
    refine slClip_i hcap ?_
    exact hOk hr n rfl hn _ w6 (e13.trans e36) o6.rd.clip (by show s.len - 0 = _; omega)
  · refine cond_i (fun _ => ?_) (fun h => by simp at h)
    dsimp only
    have o6 := o5.ext e6
    have e36 := e5.trans e6
    refine append1V_i (vC (n / x.aN ^ k / x.aN) (k + 1)) rfl rfl o6 (by omega) e36.size fun v2 w7 f7 o7 hin7 => ?_
    refine hag _ w7 ⟨k + 1, by omega, ?_, Ext.own e36 f7 fun i hi => (o6.inB hi).1, ?_⟩ ?_
    · dsimp only
      rw [div_pow_succ]
    · dsimp only
      rw [pathTo_succ, div_pow_succ]; exact o7
    · have h7 := o7.len
      simp [pathTo_len] at h7
      dsimp only
      omega
end
end Go.Proofs.Ytanjnmoonndfhaa
