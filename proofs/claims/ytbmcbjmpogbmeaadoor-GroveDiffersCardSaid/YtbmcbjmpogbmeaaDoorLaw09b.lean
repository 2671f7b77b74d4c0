/- Layer 9 (grove): the laws GroveMakes and GrovePads. -/
import Derived.Test.YtbmcbjmpogbmeaaDoorLaw09a
set_option linter.unusedSimpArgs false
set_option linter.unusedVariables false
namespace Go.Proofs.YtbmcbjmpogbmeaaDoor
open Go Go.Eng
theorem root_s {a b : Int} {p1 p3 : Sl} {salt data : List UInt8} {K : Sl → Int → World → Prop} {w : World} (ht : Tabs9 w) (hs : Bts w p1 salt) (hd : Bts w p3 data) (hl : data.length ≤ 100000)
    (hErr : askErr a salt (shp9 a b data) ≠ 0 → ∀ w', Ext w w' → K Sl.nil (askErr a salt (shp9 a b data)) w')
    (hOk : askErr a salt (shp9 a b data) = 0 → ∀ r w', Ext w w' → OwnB w' w.heap.size r ((shp9 a b data).root (S.dg a salt) data) → K r 0 w') :
    callS Tryd.prog 15 #[.int .i64 a, .slice p1.a p1.len p1.cap, .int .i64 b, .slice p3.a p3.len p3.cap] [.one .slc, .one (.int .i64)] K w := by
  refine f15_ok ?_
  unfold f15
  exact make_s ht hs hd hl hErr fun h t r w' e _ o => hOk h r w' e o
theorem SM.right_of {y : SM} (h : y.right = true) : y.shp.right = true ∧ y.salt.2.length ≤ 64 := by
  unfold SM.right at h; simpa using h
theorem SM.small_of {y : SM} (h : y.isSmall = true) : y.salt.2.length ≤ 100 ∧ y.data.2.length ≤ 1500 := by
  unfold SM.isSmall at h; simpa using h
theorem SM.dsz_of {y : SM} (h : y.shp.right = true) : S.dsz y.alg ≠ 0 := by
  have o := S.Shp.ok_of h
  have := o.dd
  have h1 : y.shp.d = S.dsz y.alg := rfl
  have h2 := o.d
  omega
theorem SM.ask_of {y : SM} (h : y.right = true) : askErr y.alg y.salt.2 y.shp = 0 := by
  obtain ⟨h1, h2⟩ := SM.right_of h
  exact askErr_of (SM.dsz_of h1) h2 h1 rfl
/-- What the document says of a seed. -/
theorem ask_want (y : SM) : askErr y.alg y.salt.2 y.shp = if S.dsz y.alg = 0 then 20 else if y.salt.2.length > 64 then 11 else if y.right = false then 24 else 0 := by
  unfold askErr SM.right
  by_cases h1 : S.dsz y.alg = 0
  · simp [h1]
  · by_cases h2 : y.salt.2.length > 64
    · simp [h1, h2]
    · rw [if_neg h1, if_neg h2, if_neg h1, if_neg h2]
      have h3 : y.shp.d = S.dsz y.alg := rfl
      rw [decide_eq_true (by omega), Bool.and_true]
      simp [h3]
theorem GroveMakes_s {y : SM} {K : Bool → World → Prop} {w : World} (hy : y.Ok w) (ht1 : Tabs w) (ht2 : L.Tabs w) (hK : ∀ w', Ext w w' → K true w') :
    callS Tryd.prog 4 #[.agg y.cells.toArray] [.one .bool] K w := by
  refine f4_ok (p0_0 := y.alg) (p0_1 := y.blk) (p0_2 := y.salt.1) (p0_3 := y.data.1) ?_
  unfold f4
  have ht : Tabs9 w := ⟨ht1, ht2⟩
  have hsl := Bts.len hy.salt
  have hdl := Bts.len hy.data
  refine box_i fun g w1 e1 hg v1 => ?_
  have v1 : Var w1 g y.cells := v1
  refine anchor9_s (ht.ext e1) fun w2 e2 => ?_
  refine cond_i (fun h => by cases h) (fun _ => ?_)
  have E2 := e1.trans e2
  have v2 := v1.ext e2
  refine ldM_i v2 ?_
  refine seedSmall_s hsl hdl fun w3 e3 => ?_
  have E3 := E2.trans e3
  have v3 := v2.ext e3
  refine cond_i (fun _ => hK w3 E3) (fun hsm => ?_)
  obtain ⟨hs100, hd15⟩ := SM.small_of (y := y) (by simpa using hsm)
  have hy3 := hy.ext E3
  refine ld1_i (l := .int .i64) (o := 0) y.alg v3 rfl (ld1_i (l := .slc) (o := 2) y.salt.1 v3 rfl (ld1_i (l := .int .i64) (o := 1) y.blk v3 rfl (ld1_i (l := .slc) (o := 3) y.data.1 v3 rfl ?_)))
  by_cases ha : askErr y.alg y.salt.2 y.shp = 0
  · refine make_s (ht.ext E3) hy3.salt hy3.data (by omega) (fun h => absurd ha h) fun _ t r w4 e4 ot or => ?_
    have v4 := v3.ext e4
    have hy4 := hy3.ext e4
    have E4 := E3.trans e4
    refine ld1_i (l := .int .i64) (o := 0) y.alg v4 rfl (ld1_i (l := .slc) (o := 2) y.salt.1 v4 rfl (ld1_i (l := .int .i64) (o := 1) y.blk v4 rfl (ld1_i (l := .slc) (o := 3) y.data.1 v4 rfl ?_)))
    refine root_s (ht.ext E4) hy4.salt hy4.data (by omega) (fun h => absurd ha h) fun _ q w5 e5 oq => ?_
    have v5 := v4.ext e5
    refine ldM_i v5 ?_
    refine seedShape_s hsl hdl fun w6 e6 => ?_
    refine alloc_i fun gx w7 e7 hgx vx => ?_
    refine stSh_i (x := y.shp) vx rfl fun w8 f8 vx8 => ?_
    have e68 : Ext w6 w8 := Fr.own1 e7 f8 hgx
    have e58 := e6.trans e68
    have v8 := v5.ext e58
    have E8 := (E4.trans e5).trans e58
    obtain ⟨q1, q2, q3, _⟩ := askErr_ok ha
    have hr : y.right = true := by unfold SM.right; rw [q3, decide_eq_true q2]; rfl
    refine join_i (fun c w' => c = 0 ∧ w8 = w') ?_ fun J hJ => ?_
    rotate_left
    · refine ld1_i (l := .int .i64) (o := 0) y.alg v8 rfl ?_
      refine rdsz_s ?_
      refine cond_i (fun h => absurd (by simpa using h) q1) (fun _ => ?_)
      refine ld1_i (l := .slc) (o := 2) y.salt.1 v8 rfl ?_
      refine cond_i (fun h => ?_) (fun _ => ?_)
      · have : (y.salt.1.len : Int) > 64 := of_decide_eq_true h
        omega
      · rw [hr]
        exact hJ _ _ ⟨rfl, rfl⟩
    rintro c w' ⟨rfl, rfl⟩
    refine cond_i (fun h => by simp at h) (fun _ => ?_)
    refine ld1_i (l := .int .i64) (o := 0) y.alg v8 rfl (ld1_i (l := .slc) (o := 2) y.salt.1 v8 rfl (ldSh_i vx8 (ld1_i (l := .slc) (o := 3) y.data.1 v8 rfl ?_)))
    have hy8 := hy.ext E8
    refine rTree_s (S.Shp.ok_of q3) rfl (by omega) rfl (by omega) hy8.salt hy8.data fun t2 r2 w9 e9 ot2 or2 => ?_
    have E9 := E8.trans e9
    have e59 := e58.trans e9
    have ot9 := Own.ext ot (e5.trans e59)
    have or9 := Own.ext or (e5.trans e59)
    have oq9 := Own.ext oq e59
    refine join_i (fun c w' => c = true ∧ w9 = w') ?_ fun J hJ => ?_
    rotate_left
    · refine cond_i (fun _ => ?_) (fun h => by simp at h)
      exact b2s_i ot9.rd (b2s_i ot2.rd (hJ _ _ ⟨beq_self_eq_true _, rfl⟩))
    rintro c w' ⟨rfl, rfl⟩
    refine join_i (fun c w' => c = true ∧ w9 = w') ?_ fun J hJ => ?_
    rotate_left
    · refine cond_i (fun _ => ?_) (fun h => by simp at h)
      exact b2s_i or9.rd (b2s_i or2.rd (hJ _ _ ⟨beq_self_eq_true _, rfl⟩))
    rintro c w' ⟨rfl, rfl⟩
    refine join_i (fun c w' => c = true ∧ w9 = w') ?_ fun J hJ => ?_
    rotate_left
    · refine cond_i (fun _ => ?_) (fun h => by simp at h)
      exact b2s_i oq9.rd (b2s_i or2.rd (hJ _ _ ⟨beq_self_eq_true _, rfl⟩))
    rintro c w' ⟨rfl, rfl⟩
    exact hK w9 E9
  · refine make_s (ht.ext E3) hy3.salt hy3.data (by omega) (fun _ w4 e4 => ?_) (fun h => absurd h ha)
    have v4 := v3.ext e4
    have hy4 := hy3.ext e4
    have E4 := E3.trans e4
    refine ld1_i (l := .int .i64) (o := 0) y.alg v4 rfl (ld1_i (l := .slc) (o := 2) y.salt.1 v4 rfl (ld1_i (l := .int .i64) (o := 1) y.blk v4 rfl (ld1_i (l := .slc) (o := 3) y.data.1 v4 rfl ?_)))
    refine root_s (ht.ext E4) hy4.salt hy4.data (by omega) (fun _ w5 e5 => ?_) (fun h => absurd h ha)
    have v5 := v4.ext e5
    refine ldM_i v5 ?_
    refine seedShape_s hsl hdl fun w6 e6 => ?_
    refine alloc_i fun gx w7 e7 hgx vx => ?_
    refine stSh_i (x := y.shp) vx rfl fun w8 f8 vx8 => ?_
    have e68 : Ext w6 w8 := Fr.own1 e7 f8 hgx
    have e58 := e6.trans e68
    have v8 := v5.ext e58
    have E8 := (E4.trans e5).trans e58
    have hw := ask_want y
    have ha' : ¬ askErr y.alg y.salt.2 (shp9 y.alg y.blk y.data.2) = 0 := ha
    have hw' : askErr y.alg y.salt.2 (shp9 y.alg y.blk y.data.2) = _ := hw
    rw [hw'] at ha' ⊢
    refine join_i (fun c w' => c = (if S.dsz y.alg = 0 then 20 else if y.salt.2.length > 64 then 11 else if y.right = false then 24 else 0) ∧ w8 = w') ?_ fun J hJ => ?_
    rotate_left
    · refine ld1_i (l := .int .i64) (o := 0) y.alg v8 rfl ?_
      refine rdsz_s ?_
      refine cond_i (fun h => hJ _ _ ⟨by rw [if_pos (by simpa using h)], rfl⟩) (fun h => ?_)
      rw [if_neg (by simpa using h)] at hJ
      refine ld1_i (l := .slc) (o := 2) y.salt.1 v8 rfl ?_
      refine cond_i (fun h => ?_) (fun h => ?_)
      · have : (y.salt.1.len : Int) > 64 := of_decide_eq_true h
        exact hJ _ _ ⟨by rw [if_pos (by omega)], rfl⟩
      · have : ¬ (y.salt.1.len : Int) > 64 := of_decide_eq_false h
        rw [if_neg (by omega)] at hJ
        refine cond_i (fun h => hJ _ _ ⟨by rw [if_pos (by simpa using h)], rfl⟩) (fun h => hJ _ _ ⟨by rw [if_neg (by simpa using h)], rfl⟩)
    rintro c w' ⟨rfl, rfl⟩
    generalize (if S.dsz y.alg = 0 then (20 : Int) else if y.salt.2.length > 64 then 11 else if y.right = false then 24 else 0) = n at ha' ⊢
    refine cond_i (fun _ => ?_) (fun h => absurd (by simpa using h) ha')
    have := hK w8 E8
    rw [show (((n == n) && (n == n)) && ((IntKind.wrap .i64 ((IntKind.wrap .i64 ((Sl.nil.len : Int) + (Sl.nil.len : Int))) + (Sl.nil.len : Int))) == 0)) = true by rw [beq_self_eq_true]; rfl]
    exact this
end Go.Proofs.YtbmcbjmpogbmeaaDoor
