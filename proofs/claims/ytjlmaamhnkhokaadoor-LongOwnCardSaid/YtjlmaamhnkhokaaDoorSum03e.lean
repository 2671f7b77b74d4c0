/- Layer 3 (long sums): the document's block. -/
import Derived.Test.YtjlmaamhnkhokaaDoorSum03d
set_option linter.unusedSimpArgs false
set_option linter.unusedVariables false
namespace Go.S.L
open Go Go.Eng
theorem add_assoc64 (a b c : Int) : sh3.add (sh3.add a b) c = sh3.add a (sh3.add b c) := by
  show IntKind.wrap .u64 (IntKind.wrap .u64 (a + b) + c) = IntKind.wrap .u64 (a + IntKind.wrap .u64 (b + c))
  rw [wrap_u64_mod, wrap_u64_mod, wrap_u64_mod, wrap_u64_mod]
  omega
end Go.S.L
namespace Go.Proofs.YtjlmaamhnkhokaaDoor.L
open Go Go.Eng

theorem constants_s {K : Sl → World → Prop} {w : World} (hK : ∀ v w', Ext w w' → OwnW w' w.heap.size v S.L.sh3.K → K v w') : callS Tryd.prog 22 #[] [.one .slc] K w := by
  refine f22_ok ?_
  unfold f22
  exact buildV_i (S.L.sh3.K.map (Value.int .u64)) rfl int_cells rfl (by omega) fun v w1 e1 o1 => hK v w1 e1 o1

theorem refBlock_s {s p : Sl} {st : S.Sha.St} {bs : List UInt8} {K : Sl → World → Prop} {w : World} (hs : Rd w s 1 (wl st)) (hp : Bts w p bs) (hl : bs.length = 128) (hK : ∀ v w', Ext w w' → OwnW w' w.heap.size v (S.L.sh3.comp st bs).list → K v w') :
    callS Tryd.prog 17 #[.slice s.a s.len s.cap, .slice p.a p.len p.cap] [.one .slc] K w := by
  refine f17_ok ?_
  unfold f17
  have hsl : s.len = 8 := by have := hs.len; simp [S.Sha.St.list] at this; omega
  refine refWords_s hp hl fun v1 w1 e1 o1 => ?_
  have hwl : (S.L.sh3.sched bs).length = 80 := by unfold S.Sha.sched; rw [S.Sha.ext_len, S.Sha.words_len]; rfl
  refine constants_s fun v2 w2 e2 o2 => ?_
  have e12 := e1.trans e2
  refine copyV_i (hs.ext e12) int_one (by omega) fun v3 w3 e3 o3 => ?_
  have e13 := e12.trans e3
  have hl1 := OwnW.len o1
  have hl2 := OwnW.len o2
  refine loop_i (fun (x : Sl × Int) w' => ∃ i : Nat, i ≤ 80 ∧ x.2 = i ∧ Ext w3 w' ∧ OwnW w' w.heap.size x.1 (S.L.sh3.rounds st (S.L.sh3.sched bs) i).list) (fun x _ => 80 - x.2.toNat) ⟨0, by omega, rfl, Fr.refl _ _, o3.base e12.size⟩ ?_
  rintro ⟨v, i'⟩ w4 again ⟨i, hi, hxi, e4, o4⟩ hag
  dsimp only at hxi o4 ⊢
  subst hxi
  have hvl : v.len = 8 := OwnW.len o4
  obtain ⟨a, ha⟩ := o4.rd.some (by omega)
  refine cond_i (fun hlt => ?_) (fun hge => ?_)
  · have hi' : i < 80 := by simp at hlt; omega
    have hstep : S.L.sh3.rounds st (S.L.sh3.sched bs) (i + 1) = S.L.sh3.step (S.L.sh3.rounds st (S.L.sh3.sched bs) i) (S.L.sh3.K.getD i 0) ((S.L.sh3.sched bs).getD i 0) := rfl
    generalize S.L.sh3.rounds st (S.L.sh3.sched bs) i = r at o4 hstep
    obtain ⟨a1, ha1⟩ := o1.rd.some (by omega)
    obtain ⟨a2, ha2⟩ := o2.rd.some (by rw [hl2]; decide)
    have q : ∀ x, Ext w4 x → Rd x v 1 (wl r) := fun x hx => (o4.ext hx).rd
    refine ⟨fun x => Ext w4 x, Ext.drew _, ?_⟩
    refine elemQ_i (l := .int .u64) (x := r.e) ha q (by omega) (by omega) rfl ?_
    refine elemQ_i (l := .int .u64) (x := r.e) ha q (by omega) (by omega) rfl ?_
    refine elemQ_i (l := .int .u64) (x := r.e) ha q (by omega) (by omega) rfl ?_
    refine right_s (n := 14) (by omega) (by omega) fun w5 e5 => ?_
    have E5 := (Ext.drew w4).trans e5
    refine more_i E5 ?_
    refine right_s (n := 18) (by omega) (by omega) fun w6 e6 => ?_
    have E6 := E5.trans e6
    refine more_i E6 ?_
    refine right_s (n := 41) (by omega) (by omega) fun w7 e7 => ?_
    have E7 := (E6.trans e7).trans (Ext.drew _)
    refine ⟨fun x => Ext w4 x, E7, ?_⟩
    refine elemQ_i (l := .int .u64) (x := r.e) ha q (by omega) (by omega) rfl ?_
    refine elemQ_i (l := .int .u64) (x := r.f) ha q (by omega) (by omega) rfl ?_
    refine elemQ_i (l := .int .u64) (x := r.e) ha q (by omega) (by omega) rfl ?_
    refine elemQ_i (l := .int .u64) (x := r.g) ha q (by omega) (by omega) rfl ?_
    have E8 := E7.trans (Ext.drew _)
    refine ⟨fun x => Ext w4 x, E8, ?_⟩
    refine elemQ_i (l := .int .u64) (x := r.h) ha q (by omega) (by omega) rfl ?_
    refine elemQ_i (l := .int .u64) (x := S.L.sh3.K.getD i 0) ha2 (fun x hx => ((o2.ext e3).ext (e4.trans hx)).rd) (by omega) (by rw [hl2]; show (i : Int) < 80; omega) (wget (show i < S.L.sh3.K.length from hi')) ?_
    refine elemQ_i (l := .int .u64) (x := (S.L.sh3.sched bs).getD i 0) ha1 (fun x hx => ((o1.ext (e2.trans e3)).ext (e4.trans hx)).rd) (by omega) (by omega) (wget (by omega)) ?_
    have E9 := E8.trans (Ext.drew _)
    refine ⟨fun x => Ext w4 x, E9, ?_⟩
    refine elemQ_i (l := .int .u64) (x := r.a) ha q (by omega) (by omega) rfl ?_
    refine elemQ_i (l := .int .u64) (x := r.a) ha q (by omega) (by omega) rfl ?_
    refine elemQ_i (l := .int .u64) (x := r.a) ha q (by omega) (by omega) rfl ?_
    refine right_s (n := 28) (by omega) (by omega) fun w10 e10 => ?_
    have E10 := E9.trans e10
    refine more_i E10 ?_
    refine right_s (n := 34) (by omega) (by omega) fun w11 e11 => ?_
    have E11 := E10.trans e11
    refine more_i E11 ?_
    refine right_s (n := 39) (by omega) (by omega) fun w12 e12' => ?_
    have E12 := (E11.trans e12').trans (Ext.drew _)
    refine ⟨fun x => Ext w4 x, E12, ?_⟩
    refine elemQ_i (l := .int .u64) (x := r.a) ha q (by omega) (by omega) rfl ?_
    refine elemQ_i (l := .int .u64) (x := r.b) ha q (by omega) (by omega) rfl ?_
    refine elemQ_i (l := .int .u64) (x := r.a) ha q (by omega) (by omega) rfl ?_
    refine elemQ_i (l := .int .u64) (x := r.c) ha q (by omega) (by omega) rfl ?_
    refine elemQ_i (l := .int .u64) (x := r.b) ha q (by omega) (by omega) rfl ?_
    refine elemQ_i (l := .int .u64) (x := r.c) ha q (by omega) (by omega) rfl ?_
    have E13 := E12.trans (Ext.drew _)
    refine ⟨fun x => Ext w4 x, E13, ?_⟩
    refine elemQ_i (l := .int .u64) (x := r.a) ha q (by omega) (by omega) rfl ?_
    refine elemQ_i (l := .int .u64) (x := r.b) ha q (by omega) (by omega) rfl ?_
    refine elemQ_i (l := .int .u64) (x := r.c) ha q (by omega) (by omega) rfl ?_
    refine elemQ_i (l := .int .u64) (x := r.d) ha q (by omega) (by omega) rfl ?_
    refine elemQ_i (l := .int .u64) (x := r.e) ha q (by omega) (by omega) rfl ?_
    refine elemQ_i (l := .int .u64) (x := r.f) ha q (by omega) (by omega) rfl ?_
    refine elemQ_i (l := .int .u64) (x := r.g) ha q (by omega) (by omega) rfl ?_
    have hb := S.L.add_assoc64 (S.L.sh3.tt r (S.L.sh3.K.getD i 0) ((S.L.sh3.sched bs).getD i 0)) (S.L.sh3.S0 r.a) (S.L.sh3.maj r.a r.b r.c)
    refine buildV_i [.int .u64 (S.L.sh3.add (S.L.sh3.add (S.L.sh3.tt r (S.L.sh3.K.getD i 0) ((S.L.sh3.sched bs).getD i 0)) (S.L.sh3.S0 r.a)) (S.L.sh3.maj r.a r.b r.c)), .int .u64 r.a, .int .u64 r.b, .int .u64 r.c, .int .u64 (S.L.sh3.add r.d (S.L.sh3.tt r (S.L.sh3.K.getD i 0) ((S.L.sh3.sched bs).getD i 0))), .int .u64 r.e, .int .u64 r.f, .int .u64 r.g] rfl (by simp [Value.cells]) rfl (by omega) fun v8 w8 e8 o8 => ?_
    rw [hb] at o8
    have E8' := E13.trans e8
    refine hag _ w8 ⟨i + 1, by omega, ?_, e4.trans E8', ?_⟩ ?_
    · simp only [wrap_i64 (x := (i : Int) + 1) (by omega) (by omega)]; omega
    · rw [hstep]; exact o8.base ((e13.trans e4).trans E13).size
    · simp only [wrap_i64 (x := (i : Int) + 1) (by omega) (by omega)]; omega
  · have hi64 : i = 80 := by simp at hge; omega
    subst hi64
    have hcomp : S.L.sh3.comp st bs = S.L.sh3.plus st (S.L.sh3.rounds st (S.L.sh3.sched bs) 80) := rfl
    clear hag hge
    generalize S.L.sh3.rounds st (S.L.sh3.sched bs) 80 = r at o4 hcomp
    have e4' := e13.trans e4
    obtain ⟨a0, ha0⟩ := hs.some (by omega)
    refine loop_i (fun (x : Sl × Int) w' => ∃ i : Nat, i ≤ 8 ∧ x.2 = i ∧ Ext w4 w' ∧ OwnW w' w4.heap.size x.1 ((S.L.sh3.plus st r).list.take i)) (fun x _ => 8 - x.2.toNat) ⟨0, by omega, rfl, Fr.refl _ _, Own.nilSl _ _ _⟩ ?_
    rintro ⟨u, i'⟩ w5 again2 ⟨i, hi, hxi, e5, o5⟩ hag
    dsimp only at hxi o5 ⊢
    subst hxi
    refine cond_i (fun hlt => ?_) (fun hge => ?_)
    · have hi' : i < 8 := by simp at hlt; omega
      have hpl : (S.L.sh3.plus st r).list[i]? = some (S.L.sh3.add (st.list.getD i 0) (r.list.getD i 0)) := by
        have : i = 0 ∨ i = 1 ∨ i = 2 ∨ i = 3 ∨ i = 4 ∨ i = 5 ∨ i = 6 ∨ i = 7 := by omega
        rcases this with rfl | rfl | rfl | rfl | rfl | rfl | rfl | rfl <;> rfl
      refine ⟨fun x => Ext w5 x, Ext.drew _, ?_⟩
      refine elemQ_i (l := .int .u64) (x := st.list.getD i 0) ha0 (fun x hx => hs.ext ((e4'.trans e5).trans hx)) (by omega) (by omega) (wget (show i < st.list.length from hi')) ?_
      refine elemQ_i (l := .int .u64) (x := r.list.getD i 0) ha (fun x hx => (o4.ext (e5.trans hx)).rd) (by omega) (by omega) (wget (show i < r.list.length from hi')) ?_
      have o5' := o5.ext (Ext.drew w5)
      refine appendW_i _ o5' (by simp [S.Sha.St.list]; omega) (e5.trans (Ext.drew _)).size fun v6 w6 f6 o6 => ?_
      have e6 : Ext w4 w6 := Ext.own (e5.trans (Ext.drew _)) f6 fun i hi => (o5'.inB hi).1
      refine hag _ w6 ⟨i + 1, by omega, ?_, e6, ?_⟩ ?_
      · simp only [wrap_i64 (x := (i : Int) + 1) (by omega) (by omega)]; omega
      · rw [List.take_add_one, hpl]; exact o6
      · simp only [wrap_i64 (x := (i : Int) + 1) (by omega) (by omega)]; omega
    · have hi8 : i = 8 := by simp at hge; omega
      subst hi8
      refine hK u w5 (e4'.trans e5) ?_
      rw [hcomp]
      exact Own.base o5 e4'.size
end Go.Proofs.YtjlmaamhnkhokaaDoor.L
