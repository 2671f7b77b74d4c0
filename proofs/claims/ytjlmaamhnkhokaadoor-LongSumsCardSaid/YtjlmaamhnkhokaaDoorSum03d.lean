/- Layer 3 (long sums): a block is taken. -/
import Derived.Test.YtjlmaamhnkhokaaDoorSum03c
set_option linter.unusedSimpArgs false
set_option linter.unusedVariables false
namespace Go.Proofs.YtjlmaamhnkhokaaDoor.L
open Go Go.Eng

abbrev wl (s : S.Sha.St) : List Value := s.list.map (Value.int .u64)
abbrev l8 : List Lf := [.int .u64, .int .u64, .int .u64, .int .u64, .int .u64, .int .u64, .int .u64, .int .u64]
theorem ld8_i {P : Program} {w : World} {t g : Nat} [AggTy P t 8] {s : S.Sha.St} {tl : List Value} {K : Int → Int → Int → Int → Int → Int → Int → Int → World → Prop} (h : Var w g (wl s ++ tl)) (hK : K s.a s.b s.c s.d s.e s.f s.g s.h w) :
    semS P (Instr.loadAt t (.pointer (some (at_ g 0)))) (.agg l8) K w := by
  refine ldV_i (n := 8) (ls := l8) 0 h (by simp [S.Sha.St.list]) ?_
  exact hK
theorem mix_set {xs zs : List Int} {tl : List Value} {i : Nat} {z : Int} (hl : xs.length = zs.length) (hi : i < xs.length) (hz : zs[i]? = some z) :
    ((zs.take i ++ xs.drop i).map (Value.int .u64) ++ tl).set i (.int .u64 z) = (zs.take (i + 1) ++ xs.drop (i + 1)).map (Value.int .u64) ++ tl := by
  have h1 : xs.drop i = xs[i] :: xs.drop (i + 1) := List.drop_eq_getElem_cons hi
  have h2 : zs.take (i + 1) = zs.take i ++ [z] := by rw [List.take_add_one, hz]; rfl
  have h3 : ((zs.take i).map (Value.int .u64)).length = i := by simp; omega
  rw [h1, h2, List.map_append, List.map_cons, List.append_assoc, List.set_append_right _ _ (by omega), h3, Nat.sub_self]
  simp
theorem take_s {gh : Nat} {st : S.Sha.St} {tl : List Value} {s : Sl} {bs : List UInt8} {K : World → Prop} {w : World} (hv : Var w gh (wl st ++ tl)) (hs : Bts w s bs) (hl : bs.length = 128) (hg : Var w 1 (S.L.sh3.K.map (Value.int .u64)))
    (hK : ∀ w', Fr (fun k => k = gh) w w' → Var w' gh (wl (S.L.sh3.comp st bs) ++ tl) → K w') :
    callS Tryd.prog 14 #[.pointer (some (at_ gh 0)), .slice s.a s.len s.cap] [] K w := by
  refine f14_ok ?_
  unfold f14
  refine schedule_s hs hl fun w1 e1 => ?_
  have hwl : (S.L.sh3.sched bs).length = 80 := by unfold S.Sha.sched; rw [S.Sha.ext_len, S.Sha.words_len]; rfl
  refine alloc_i fun g2 w2 e2 hg2 v2 => ?_
  refine stArr_i v2 hwl rfl fun w3 f3 v3 => ?_
  have e13 := Fr.own1 e2 f3 hg2
  have e3 := e1.trans e13
  refine nil_i rfl ?_
  refine ld8_i (hv.ext e3) ?_
  refine alloc_i fun g4 w4 e4 hg4 v4 => ?_
  refine stV_i (vs := wl st) 0 v4 rfl (Nat.le_refl 8) int_one fun w5 f5 v5 => ?_
  have v5' : Var w5 g4 (wl st) := v5
  have e35 := Fr.own1 e4 f5 hg4
  have e5 := e3.trans e35
  have hgg : g2 ≠ g4 := by have := v3.lt; omega
  have own4 : ∀ {a b : World}, Ext w3 a → Fr (fun k => k = g4) a b → Ext w3 b := fun h1 h2 => Fr.own1 h1 h2 hg4
  refine ldArr_i (n := 80) (hg.ext e5) rfl ?_
  refine loop_i (fun (x : Int) w' => ∃ i : Nat, i ≤ 80 ∧ x = i ∧ Ext w3 w' ∧ Var w' g4 (wl (S.L.sh3.rounds st (S.L.sh3.sched bs) i))) (fun x _ => 80 - x.toNat) ⟨0, by omega, rfl, e35, v5'⟩ ?_
  rintro i' w6 again ⟨i, hi, rfl, e6, v6⟩ hag
  refine cond_i (fun hlt => ?_) (fun hge => ?_)
  · have hi' : i < 80 := by simp at hlt; omega
    have hstep : S.L.sh3.rounds st (S.L.sh3.sched bs) (i + 1) = S.L.sh3.step (S.L.sh3.rounds st (S.L.sh3.sched bs) i) (S.L.sh3.K.getD i 0) ((S.L.sh3.sched bs).getD i 0) := rfl
    generalize S.L.sh3.rounds st (S.L.sh3.sched bs) i = r at v6 hstep
    refine ixL_i (l := .int .u64) (x := S.L.sh3.K.getD i 0) (by omega) (by omega) (wget (show i < S.L.sh3.K.length from hi')) ?_
    have q : ∀ {n : Nat} {x : Int}, (wl r)[0 + n]? = some (.int .u64 x) → ∀ {n' : Int}, n'.toNat = n → (wl r)[0 + n'.toNat]? = some (Lf.enc (.int .u64) x) := fun h1 _ h2 => by rw [h2]; exact h1
    refine ⟨fun x => Ext w6 x, Ext.drew _, ?_⟩
    refine elAQ_i (l := .int .u64) (x := r.a) (fun x hx => v6.ext hx) (by omega) (by omega) rfl ?_
    refine elAQ_i (l := .int .u64) (x := r.e) (fun x hx => v6.ext hx) (by omega) (by omega) rfl ?_
    have E1 := (Ext.drew w6).trans (Ext.drew _)
    refine ⟨fun x => Ext w6 x, E1, ?_⟩
    refine elAQ_i (l := .int .u64) (x := r.h) (fun x hx => v6.ext hx) (by omega) (by omega) rfl ?_
    refine elAQ_i (l := .int .u64) (x := r.f) (fun x hx => v6.ext hx) (by omega) (by omega) rfl ?_
    refine elAQ_i (l := .int .u64) (x := r.g) (fun x hx => v6.ext hx) (by omega) (by omega) rfl ?_
    refine elAQ_i (l := .int .u64) (x := (S.L.sh3.sched bs).getD i 0) (fun x hx => (v3.ext e6).ext hx) (by omega) (by omega) (by rw [show 0 + ((i : Int)).toNat = i by omega]; exact wget (by omega)) ?_
    refine turn_s (n := 14) (by omega) (by omega) ?_
    refine more_i E1 ?_
    refine turn_s (n := 18) (by omega) (by omega) ?_
    refine more_i E1 ?_
    refine turn_s (n := 41) (by omega) (by omega) ?_
    refine more_i E1 ?_
    have E2 := E1.trans (Ext.drew _)
    refine ⟨fun x => Ext w6 x, E2, ?_⟩
    refine elAQ_i (l := .int .u64) (x := r.b) (fun x hx => v6.ext hx) (by omega) (by omega) rfl ?_
    refine elAQ_i (l := .int .u64) (x := r.c) (fun x hx => v6.ext hx) (by omega) (by omega) rfl ?_
    refine elAQ_i (l := .int .u64) (x := r.b) (fun x hx => v6.ext hx) (by omega) (by omega) rfl ?_
    refine elAQ_i (l := .int .u64) (x := r.c) (fun x hx => v6.ext hx) (by omega) (by omega) rfl ?_
    refine turn_s (n := 28) (by omega) (by omega) ?_
    refine more_i E2 ?_
    refine turn_s (n := 34) (by omega) (by omega) ?_
    refine more_i E2 ?_
    refine turn_s (n := 39) (by omega) (by omega) ?_
    refine more_i E2 ?_
    have v7 := v6.ext E2
    refine elA_i (l := .int .u64) (x := r.b) v7 (by omega) (by omega) rfl ?_
    refine elA_i (l := .int .u64) (x := r.c) v7 (by omega) (by omega) rfl ?_
    refine elA_i (l := .int .u64) (x := r.d) v7 (by omega) (by omega) rfl ?_
    refine elA_i (l := .int .u64) (x := r.f) v7 (by omega) (by omega) rfl ?_
    refine elA_i (l := .int .u64) (x := r.g) v7 (by omega) (by omega) rfl ?_
    refine stV_i (vs := wl (S.L.sh3.step r (S.L.sh3.K.getD i 0) ((S.L.sh3.sched bs).getD i 0))) 0 v7 rfl (Nat.le_refl 8) int_one fun w8 f8 v8 => ?_
    refine hag _ w8 ⟨i + 1, by omega, ?_, own4 (e6.trans E2) f8, ?_⟩ ?_
    · rw [wrap_i64 (by omega) (by omega)]; omega
    · rw [hstep]; exact v8
    · rw [wrap_i64 (by omega) (by omega)]; omega
  · have hi64 : i = 80 := by simp at hge; omega
    subst hi64
    have hcomp : S.L.sh3.comp st bs = S.L.sh3.plus st (S.L.sh3.rounds st (S.L.sh3.sched bs) 80) := rfl
    clear hag hge
    generalize S.L.sh3.rounds st (S.L.sh3.sched bs) 80 = r at v6 hcomp
    refine ld8_i (s := r) (tl := []) (by simpa using v6) ?_
    have e36 := e3.trans e6
    refine loop_i (fun (x : Int) w' => ∃ i : Nat, i ≤ 8 ∧ x = i ∧ Fr (fun k => k = gh) w w' ∧ Var w' gh (((S.L.sh3.plus st r).list.take i ++ st.list.drop i).map (Value.int .u64) ++ tl)) (fun x _ => 8 - x.toNat) ⟨0, by omega, rfl, e36.fr, hv.ext e36⟩ ?_
    rintro i' w7 again2 ⟨i, hi, rfl, f7, v7⟩ hag
    refine cond_i (fun hlt => ?_) (fun hge => ?_)
    · have hi' : i < 8 := by simp at hlt; omega
      have hpl : (S.L.sh3.plus st r).list[i]? = some (S.L.sh3.add (st.list.getD i 0) (r.list.getD i 0)) := by
        have : i = 0 ∨ i = 1 ∨ i = 2 ∨ i = 3 ∨ i = 4 ∨ i = 5 ∨ i = 6 ∨ i = 7 := by omega
        rcases this with rfl | rfl | rfl | rfl | rfl | rfl | rfl | rfl <;> rfl
      have hcur : (((S.L.sh3.plus st r).list.take i ++ st.list.drop i).map (Value.int .u64) ++ tl)[0 + ((i : Int)).toNat]? = some (Lf.enc (.int .u64) (st.list.getD i 0)) := by
        have : i = 0 ∨ i = 1 ∨ i = 2 ∨ i = 3 ∨ i = 4 ∨ i = 5 ∨ i = 6 ∨ i = 7 := by omega
        rcases this with rfl | rfl | rfl | rfl | rfl | rfl | rfl | rfl <;> rfl
      refine ixL_i (cs := wl r) (l := .int .u64) (x := r.list.getD i 0) (by omega) (by omega) (wget (show i < r.list.length from hi')) ?_
      refine ⟨fun x => Ext w7 x, Ext.drew _, ?_⟩
      refine nil_i rfl ?_
      refine elAQ_i (l := .int .u64) (o := 0) (fun x hx => v7.ext hx) (by omega) (by omega) hcur ?_
      refine nil_i rfl ?_
      refine ixAQ_i (by omega) (by omega) ?_
      rw [Nat.mul_one, show ((at_ gh 0).add 0).add ((i : Int)).toNat = at_ gh (0 + ((i : Int)).toNat) from at_add gh 0 _]
      have hlen8 : 0 + ((i : Int)).toNat < (((S.L.sh3.plus st r).list.take i ++ st.list.drop i).map (Value.int .u64) ++ tl).length := (List.getElem?_eq_some_iff.1 hcur).1
      refine st1_i (v7.ext (Ext.drew _)) hlen8 rfl fun w8 f8 v8 => ?_
      refine hag _ w8 ⟨i + 1, by omega, ?_, (f7.then (Ext.drew _)).trans' f8, ?_⟩ ?_
      · rw [wrap_i64 (by omega) (by omega)]; omega
      · rw [show 0 + ((i : Int)).toNat = i by omega] at v8
        have := mix_set (xs := st.list) (zs := (S.L.sh3.plus st r).list) (tl := tl) (i := i) rfl hi' hpl
        rw [← this]
        exact v8
      · rw [wrap_i64 (by omega) (by omega)]; omega
    · have hi8 : i = 8 := by simp at hge; omega
      subst hi8
      refine hK w7 f7 ?_
      rw [hcomp]
      exact v7
end Go.Proofs.YtjlmaamhnkhokaaDoor.L
