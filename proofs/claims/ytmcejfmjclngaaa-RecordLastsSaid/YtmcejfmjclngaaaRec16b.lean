/- Layer 16 (record): halves, slots. -/
import Derived.Test.YtmcejfmjclngaaaRec16
import Derived.Test.YtmcejfmjclngaaaPure16b
set_option linter.unusedSimpArgs false
set_option linter.unusedVariables false
namespace Go.S
def Half.boot (h : Half) : Bool := decide (h.p > 0) && (h.g || decide (h.t > 0))
def pick (a b : Half) : Int × Bool := if b.boot && (!a.boot || decide (b.p > a.p)) then (1, true) else (0, a.boot)
def refPick (a b : Half) : Int := if a.boot && (!b.boot || decide (a.p ≥ b.p)) then 0 else if b.boot then 1 else -1
theorem pick_ref (a b : Half) : (pick a b).2 = decide (refPick a b ≥ 0) ∧ ((pick a b).2 = true → (pick a b).1 = refPick a b) ∧ ((pick a b).2 = false → (pick a b).1 = 0) := by
  unfold pick refPick
  cases a.boot <;> cases b.boot <;> simp <;> by_cases h : a.p < b.p <;> simp [h] <;> first | omega | (intro h2; omega)
end Go.S
namespace Go.Proofs.Ytmcejfmjclngaaa
open Go Go.Eng

abbrev hls (h : S.Half) : List Value := [.int .i64 h.p, .int .i64 h.t, .bool h.g]
abbrev rls (a b : S.Half) : List Value := [.int .i64 a.p, .int .i64 a.t, .bool a.g, .int .i64 b.p, .int .i64 b.t, .bool b.g]
abbrev lH : List Lf := [.int .i64, .int .i64, .bool]
abbrev lR : List Lf := [.int .i64, .int .i64, .bool, .int .i64, .int .i64, .bool]
section
variable {P : Program} {w : World}
theorem ldH_i {t g o : Nat} [AggTy P t 3] {cs : List Value} (h : S.Half) {K : Int → Int → Bool → World → Prop} (hv : Var w g cs) (he : (cs.drop o).take 3 = hls h) (hK : K h.p h.t h.g w) :
    semS P (Instr.loadAt t (.pointer (some (at_ g o)))) (.agg lH) K w := by
  have hl : o + 3 ≤ cs.length := by have := congrArg List.length he; simp at this; omega
  refine ldV_i (ls := lH) o hv hl ?_
  rw [he]; exact hK
theorem ldHQ_i {t g o : Nat} [AggTy P t 3] (cs : List Value) (h : S.Half) {C : World → Prop} {K : Int → Int → Bool → Prop} (hv : ∀ w, C w → Var w g cs) (he : (cs.drop o).take 3 = hls h) (hK : K h.p h.t h.g) :
    semQ P C (Instr.loadAt t (.pointer (some (at_ g o)))) (.agg lH) K := by
  have hl : o + 3 ≤ cs.length := by have := congrArg List.length he; simp at this; omega
  refine ldVQ_i (ls := lH) o hv hl ?_
  rw [he]; exact hK
theorem ldR_i {t g : Nat} [AggTy P t 6] {a b : S.Half} {K : Int → Int → Bool → Int → Int → Bool → World → Prop} (hv : Var w g (rls a b)) (hK : K a.p a.t a.g b.p b.t b.g w) :
    semS P (Instr.loadAt t (.pointer (some (at_ g 0)))) (.agg lR) K w :=
  ldV_i (n := 6) (ls := lR) 0 hv (Nat.le_refl 6) hK
theorem ldRQ_i {t g : Nat} [AggTy P t 6] {a b : S.Half} {C : World → Prop} {K : Int → Int → Bool → Int → Int → Bool → Prop} (hv : ∀ w, C w → Var w g (rls a b)) (hK : K a.p a.t a.g b.p b.t b.g) :
    semQ P C (Instr.loadAt t (.pointer (some (at_ g 0)))) (.agg lR) K :=
  ldVQ_i (n := 6) (ls := lR) 0 hv (Nat.le_refl 6) hK
theorem stH_i {t g : Nat} (o : Nat) [AggTy P t 3] {cs : List Value} {x y : Int} {z : Bool} {K : World → Prop} (hv : Var w g cs) (hl : o + 3 ≤ cs.length)
    (hK : ∀ w', Fr (fun k => k = g) w w' → Var w' g (cs.take o ++ hls ⟨x, y, z⟩ ++ cs.drop (o + 3)) → K w') : semU P (Instr.storeAt t (.pointer (some (at_ g o))) (.agg #[.int .i64 x, .int .i64 y, .bool z])) K w :=
  stV_i (vs := hls ⟨x, y, z⟩) o hv rfl hl (by simp [Value.oneCell']) hK
theorem stR_i {t g : Nat} [AggTy P t 6] {cs : List Value} {x y x' y' : Int} {z z' : Bool} {K : World → Prop} (hv : Var w g cs) (hl : cs.length = 6)
    (hK : ∀ w', Fr (fun k => k = g) w w' → Var w' g (rls ⟨x, y, z⟩ ⟨x', y', z'⟩) → K w') : semU P (Instr.storeAt t (.pointer (some (at_ g 0))) (.agg #[.int .i64 x, .int .i64 y, .bool z, .int .i64 x', .int .i64 y', .bool z'])) K w :=
  stV_i (n := 6) (vs := rls ⟨x, y, z⟩ ⟨x', y', z'⟩) 0 hv rfl (by omega) (by simp [Value.oneCell']) fun w' h1 h2 => hK w' h1 (by simpa [List.drop_of_length_le (Nat.le_of_eq hl)] using h2)
end

theorem first_s {K : Int → Int → Bool → Int → Int → Bool → World → Prop} {w : World} (hK : ∀ w', Ext w w' → K 15 7 false 14 7 false w') : callS Try.prog 30 #[] [.agg lR] K w := by
  refine f30_ok ?_
  unfold f30
  refine alloc_i fun g w1 e1 hg v1 => ?_
  refine stR_i v1 rfl fun w2 f2 v2 => ?_
  exact resV_i v2 rfl (hK w2 (Fr.own1 e1 f2 hg))

theorem boot_s {h : S.Half} {K : Bool → World → Prop} {w : World} (hK : ∀ w', Ext w w' → K h.boot w') : callS Try.prog 14 #[.agg #[.int .i64 h.p, .int .i64 h.t, .bool h.g]] [.one .bool] K w := by
  refine f14_ok ?_
  unfold f14
  refine box_i fun g w1 e1 hg v1 => ?_
  refine ld1_i h.p v1 rfl ?_
  refine join_i (fun b w' => w' = w1 ∧ b = h.boot) ?_ fun J hJ => ?_
  · rintro b w' ⟨rfl, rfl⟩; exact hK _ e1
  · refine cond_i (fun h1 => ?_) (fun h1 => hJ _ _ ⟨rfl, by simp [S.Half.boot, h1]⟩)
    refine ld1_i h.g v1 rfl ?_
    refine join_i (fun b w' => w' = w1 ∧ b = h.boot) (fun b w' hb => hJ _ _ hb) fun J2 hJ2 => ?_
    refine cond_i (fun h2 => hJ2 _ _ ⟨rfl, by simp [S.Half.boot, h1, h2]⟩) (fun h2 => ?_)
    refine ld1_i h.t v1 rfl ?_
    exact hJ2 _ _ ⟨rfl, by simp [S.Half.boot, h1, h2]⟩
theorem refBoot_s {h : S.Half} {K : Bool → World → Prop} {w : World} (hK : ∀ w', Ext w w' → K h.boot w') : callS Try.prog 18 #[.agg #[.int .i64 h.p, .int .i64 h.t, .bool h.g]] [.one .bool] K w := by
  refine f18_ok ?_
  unfold f18
  refine box_i fun g w1 e1 hg v1 => ?_
  refine ld1_i h.p v1 rfl ?_
  refine join_i (fun b w' => w' = w1 ∧ b = h.boot) ?_ fun J hJ => ?_
  · rintro b w' ⟨rfl, rfl⟩; exact hK _ e1
  · refine cond_i (fun h1 => ?_) (fun h1 => hJ _ _ ⟨rfl, by simp [S.Half.boot, h1]⟩)
    refine ld1_i h.g v1 rfl ?_
    refine join_i (fun b w' => w' = w1 ∧ b = h.boot) (fun b w' hb => hJ _ _ hb) fun J2 hJ2 => ?_
    refine cond_i (fun h2 => hJ2 _ _ ⟨rfl, by simp [S.Half.boot, h1, h2]⟩) (fun h2 => ?_)
    refine ld1_i h.t v1 rfl ?_
    exact hJ2 _ _ ⟨rfl, by simp [S.Half.boot, h1, h2]⟩

theorem pick_s {a b : S.Half} {K : Int → Bool → World → Prop} {w : World} (hK : ∀ w', Ext w w' → K (S.pick a b).1 (S.pick a b).2 w') :
    callS Try.prog 13 #[.agg #[.int .i64 a.p, .int .i64 a.t, .bool a.g, .int .i64 b.p, .int .i64 b.t, .bool b.g]] [.one (.int .i64), .one .bool] K w := by
  refine f13_ok ?_
  unfold f13
  refine box_i fun g w1 e1 hg v1 => ?_
  refine ⟨fun w' => Ext w1 w', Ext.drew _, ?_⟩
  refine ldHQ_i (rls a b) a (fun w' hw' => v1.ext hw') rfl ?_
  refine ldHQ_i (rls a b) b (fun w' hw' => v1.ext hw') rfl ?_
  refine boot_s fun w2 e2 => ?_
  have e12 : Ext w1 w2 := (Ext.drew w1).trans e2
  refine more_i e12 ?_
  refine boot_s fun w3 e3 => ?_
  have e13 := e12.trans e3
  have v3 := v1.ext e13
  refine join_i (fun c w' => w' = w3 ∧ c = (b.boot && (!a.boot || decide (b.p > a.p)))) ?_ fun J hJ => ?_
  · rintro c w' ⟨rfl, hc⟩
    unfold S.pick at hK
    rw [← hc] at hK
    have hKK := hK _ (e1.trans e13)
    refine cond_i (fun h => ?_) (fun h => ?_)
    · rw [h] at hKK; exact hKK
    · rw [h] at hKK; exact hKK
  · refine cond_i (fun h1 => ?_) (fun h1 => hJ _ _ ⟨rfl, by simp [h1]⟩)
    refine join_i (fun c w' => w' = w3 ∧ c = (b.boot && (!a.boot || decide (b.p > a.p)))) (fun b w' hb => hJ _ _ hb) fun J2 hJ2 => ?_
    refine cond_i (fun h2 => hJ2 _ _ ⟨rfl, by simp [h1, h2]⟩) (fun h2 => ?_)
    refine ld1_i b.p v3 rfl ?_
    refine ld1_i a.p v3 rfl ?_
    exact hJ2 _ _ ⟨rfl, by simp at h2; simp [h1, h2]⟩

theorem refPick_s {a b : S.Half} {K : Int → World → Prop} {w : World} (hK : ∀ w', Ext w w' → K (S.refPick a b) w') :
    callS Try.prog 17 #[.agg #[.int .i64 a.p, .int .i64 a.t, .bool a.g, .int .i64 b.p, .int .i64 b.t, .bool b.g]] [.one (.int .i64)] K w := by
  refine f17_ok ?_
  unfold f17
  refine box_i fun g w1 e1 hg v1 => ?_
  refine ldH_i a v1 rfl ?_
  refine refBoot_s fun w2 e2 => ?_
  unfold S.refPick at hK
  refine join_i (fun c w' => Ext w1 w' ∧ c = (a.boot && (!b.boot || decide (a.p ≥ b.p)))) ?_ fun J hJ => ?_
  · rintro c w' ⟨e, hc⟩
    rw [← hc] at hK
    refine cond_i (fun h => ?_) (fun h => ?_)
    · rw [h] at hK; exact hK _ (e1.trans e)
    · rw [h] at hK
      refine ldH_i b (v1.ext e) rfl ?_
      refine refBoot_s fun w3 e3 => ?_
      refine cond_i (fun h2 => ?_) (fun h2 => ?_)
      · rw [h2] at hK; exact hK _ ((e1.trans e).trans e3)
      · rw [h2] at hK; exact hK _ ((e1.trans e).trans e3)
  · refine cond_i (fun h1 => ?_) (fun h1 => hJ _ _ ⟨e2, by simp [h1]⟩)
    refine ldH_i b (v1.ext e2) rfl ?_
    refine refBoot_s fun w3 e3 => ?_
    have e13 := e2.trans e3
    refine join_i (fun c w' => Ext w1 w' ∧ c = (a.boot && (!b.boot || decide (a.p ≥ b.p)))) (fun b w' hb => hJ _ _ hb) fun J2 hJ2 => ?_
    refine cond_i (fun h2 => hJ2 _ _ ⟨e13, by simp at h2; simp [h1, h2]⟩) (fun h2 => ?_)
    refine ld1_i a.p (v1.ext e13) rfl ?_
    refine ld1_i b.p (v1.ext e13) rfl ?_
    exact hJ2 _ _ ⟨e13, by simp at h2; simp [h1, h2]⟩

theorem model_s {a b : S.Half} {K : Int → Int → Bool → Int → Int → Bool → World → Prop} {w : World} (hK : ∀ w', Ext w w' → K a.p a.t a.g b.p b.t b.g w') :
    callS Try.prog 16 #[.agg #[.int .i64 a.p, .int .i64 a.t, .bool a.g, .int .i64 b.p, .int .i64 b.t, .bool b.g]] [.agg lR] K w := by
  refine f16_ok ?_
  unfold f16
  refine box_i fun g w1 e1 hg v1 => ?_
  refine alloc_i fun g2 w2 e2 hg2 v2 => ?_
  refine ldH_i a (v1.ext e2) rfl ?_
  refine ldH_i b (v1.ext e2) rfl ?_
  refine stR_i v2 rfl fun w3 f3 v3 => ?_
  exact resV_i v3 rfl (hK w3 (Fr.own1 (e1.trans e2) f3 (by have := e1.size; omega)))

def S.half (a b : S.Half) (slot : Int) : S.Half := if slot = 0 then a else if slot = 1 then b else .zero
theorem half_s {a b : S.Half} {slot : Int} {K : Int → Int → Bool → World → Prop} {w : World} (hK : ∀ w', Ext w w' → K (S.half a b slot).p (S.half a b slot).t (S.half a b slot).g w') :
    callS Try.prog 15 #[.agg #[.int .i64 a.p, .int .i64 a.t, .bool a.g, .int .i64 b.p, .int .i64 b.t, .bool b.g], .int .i64 slot] [.agg lH] K w := by
  refine f15_ok ?_
  unfold f15
  refine box_i fun g w1 e1 hg v1 => ?_
  refine alloc_i fun g2 w2 e2 hg2 v2 => ?_
  have own : ∀ {w3}, Fr (fun k => k = g2) w2 w3 → Ext w w3 := fun f3 => Fr.own1 (e1.trans e2) f3 (by have := e1.size; omega)
  unfold S.half at hK
  refine cond_i (fun h => ?_) (fun h => ?_)
  · rw [if_pos (by simpa using h)] at hK
    refine ldH_i a (v1.ext e2) rfl ?_
    refine stH_i 0 v2 (by decide) fun w3 f3 v3 => ?_
    exact resV_i v3 rfl (hK w3 (own f3))
  · rw [if_neg (by simpa using h)] at hK
    refine cond_i (fun h => ?_) (fun h => ?_)
    · rw [if_pos (by simpa using h)] at hK
      refine ldH_i b (v1.ext e2) rfl ?_
      refine stH_i 0 v2 (by decide) fun w3 f3 v3 => ?_
      exact resV_i v3 rfl (hK w3 (own f3))
    · rw [if_neg (by simpa using h)] at hK
      refine stH_i 0 v2 (by decide) fun w3 f3 v3 => ?_
      exact resV_i v3 rfl (hK w3 (own f3))

def S.with (a b : S.Half) (slot : Int) (h : S.Half) : S.Half × S.Half := if slot = 0 then (h, b) else if slot = 1 then (a, h) else (a, b)
theorem with_s {a b h : S.Half} {slot : Int} {K : Int → Int → Bool → Int → Int → Bool → World → Prop} {w : World}
    (hK : ∀ w', Ext w w' → K (S.with a b slot h).1.p (S.with a b slot h).1.t (S.with a b slot h).1.g (S.with a b slot h).2.p (S.with a b slot h).2.t (S.with a b slot h).2.g w') :
    callS Try.prog 19 #[.agg #[.int .i64 a.p, .int .i64 a.t, .bool a.g, .int .i64 b.p, .int .i64 b.t, .bool b.g], .int .i64 slot, .agg #[.int .i64 h.p, .int .i64 h.t, .bool h.g]] [.agg lR] K w := by
  refine f19_ok ?_
  unfold f19
  refine box_i fun g w1 e1 hg v1 => ?_
  refine box_i fun gh w2 e2 hgh v2 => ?_
  refine alloc_i fun g3 w3 e3 hg3 v3 => ?_
  have e13 := e2.trans e3
  have s1 := e1.size
  have s2 := e2.size
  have ne : g ≠ g3 := by have := v1.lt; omega
  unfold S.with at hK
  refine cond_i (fun hs => ?_) (fun hs => ?_)
  · rw [if_pos (by simpa using hs)] at hK
    refine ldH_i h (v2.ext e3) rfl ?_
    refine stH_i 0 (v1.ext e13) (show 3 ≤ 6 by decide) fun w4 f4 v4 => ?_
    refine ldR_i (a := h) (b := b) v4 ?_
    refine stR_i (v3.fr f4 (fun h => ne h.symm)) rfl fun w5 f5 v5 => ?_
    exact resV_i v5 rfl (hK w5 (Fr.own1 (Fr.own1 (e1.trans e13) f4 hg) f5 (by omega)))
  · rw [if_neg (by simpa using hs)] at hK
    refine cond_i (fun hs => ?_) (fun hs => ?_)
    · rw [if_pos (by simpa using hs)] at hK
      refine ldH_i h (v2.ext e3) rfl ?_
      refine stH_i 3 (v1.ext e13) (show 6 ≤ 6 by decide) fun w4 f4 v4 => ?_
      refine ldR_i (a := a) (b := h) v4 ?_
      refine stR_i (v3.fr f4 (fun h => ne h.symm)) rfl fun w5 f5 v5 => ?_
      exact resV_i v5 rfl (hK w5 (Fr.own1 (Fr.own1 (e1.trans e13) f4 hg) f5 (by omega)))
    · rw [if_neg (by simpa using hs)] at hK
      refine ldR_i (v1.ext e13) ?_
      refine stR_i v3 rfl fun w5 f5 v5 => ?_
      exact resV_i v5 rfl (hK w5 (Fr.own1 (e1.trans e13) f5 (by omega)))
end Go.Proofs.Ytmcejfmjclngaaa
