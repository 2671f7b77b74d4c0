/- Layer 10 (drive): a step of a play that makes a sector bad. -/
import Derived.Test.YtjphpadgbhegaaaPly10g
set_option linter.unusedSimpArgs false
set_option linter.unusedVariables false
namespace Go.Proofs.Ytjphpadgbhegaaa
open Go Go.Eng
section
variable {w w' : World} {B gd gt : Nat} {L : Lay} {T : TLay} {lf : Int} {ar : Bool} {ks : Sl} {D : S.Drv}
/-- Step 4: a sector is made bad, or good. -/
theorem stepBad_s {o : DOp} {g1 : Nat} {r3 : Int} {K : Bool → World → Prop} (h : Both w B gd gt L T lf ar ks D) (ho : o.Ok w) (v : Var w g1 o.cells) (hg1 : ∀ k, (T.own D.as.length k ∨ k = gt ∨ L.inD gd k) → k ≠ g1) (hs : D.count + 1 ≤ 1000000000 ∧ D.bytes + 1048576 ≤ 1000000000000000)
    (hr3 : r3 = atI D o.name) (hK : StepK B gd gt 0 T D w K) :
    joinS (σ := Bool) (fun x62 w =>
            joinS (σ := Unit) (fun _ w =>
              semS Try.prog (Instr.loadAt 9 (.pointer (some (at_ g1 3)))) (.one .str) (fun x65 w =>
              semS Try.prog (Instr.loadAt 2 (.pointer (some (at_ g1 1)))) (.one (.int .i64)) (fun x66 w =>
              semS Try.prog (Instr.loadAt 4 (.pointer (some (at_ g1 5)))) (.one .bool) (fun x67 w =>
              callS Try.prog 14 #[(.pointer (some (at_ gd 0))), (.string x65), (.int .i64 x66), (.bool x67)] [(.one .bool)] (fun r68 w =>
              K (r68 == x62) w) w) w) w) w) fun J64 =>
            cond x62
              (drawS w fun C w =>
              nilS (some (at_ gt 0)) fun a69 =>
              semQ Try.prog C (Instr.loadAt 51 (.pointer (some (a69.add 2)))) (.one .slc) (fun x70 =>
              semQ Try.prog C (Instr.indexAt 51 (.slice x70.a x70.len x70.cap) (.int .i64 r3)) (.one .adr) (fun x71 =>
              semQ Try.prog C (Instr.loadAt 23 (.pointer (some x71))) (.one .slc) (fun x72 =>
              semQ Try.prog C (Instr.loadAt 2 (.pointer (some (at_ g1 1)))) (.one (.int .i64)) (fun x73 =>
              semQ Try.prog C (Instr.loadAt 4 (.pointer (some (at_ g1 5)))) (.one .bool) (fun x74 =>
              semQ Try.prog C (Instr.indexAt 23 (.slice x72.a x72.len x72.cap) (.int .i64 x73)) (.one .adr) (fun x75 =>
              semU Try.prog (Instr.storeAt 4 (.pointer (some x75)) (.bool x74)) (fun w =>
              J64 () w) w)))))))
              (J64 () w)) fun J63 =>
          drawS w fun C w =>
          cond (decide (r3 ≥ 0))
            (semQ Try.prog C (Instr.loadAt 2 (.pointer (some (at_ g1 1)))) (.one (.int .i64)) (fun x76 =>
            cond (decide (x76 ≥ 0))
              (semQ Try.prog C (Instr.loadAt 2 (.pointer (some (at_ g1 1)))) (.one (.int .i64)) (fun x77 =>
              nilS (some (at_ gt 0)) fun a78 =>
              semQ Try.prog C (Instr.loadAt 51 (.pointer (some (a78.add 2)))) (.one .slc) (fun x79 =>
              semQ Try.prog C (Instr.indexAt 51 (.slice x79.a x79.len x79.cap) (.int .i64 r3)) (.one .adr) (fun x80 =>
              semQ Try.prog C (Instr.loadAt 23 (.pointer (some x80))) (.one .slc) (fun x81 =>
              J63 (decide (x77 < (x81.len : Int))) w)))))
              (J63 false w)))
            (J63 false w) := by
  have lk := S.like_badS (D := D) (n := o.name) (s := o.off) (on := o.on)
  have hxl : ∀ {i}, i < D.as.length → T.xS.len = D.as.length ∧ (T.sX i).len = (D.ar i).b.length / 64 := fun {i} hi => by
    have h1 := h.t.xs.len; have h2 := (h.t.rX i hi).len; simp [badL] at h1 h2; omega
  refine join_i (fun c w' => c = (D.badS o.name o.off o.on).1 ∧ Ext w w') ?_ fun J hJ => ?_
  rotate_left
  · subst hr3
    have hd := Ext.drew w
    refine ⟨fun x => Ext w x, hd, ?_⟩
    unfold atI
    unfold S.Drv.badS at hJ
    cases hat : D.at? o.name with
    | none =>
      rw [hat] at hJ
      exact cond_i (fun h => by simp at h) (fun _ => hJ _ _ ⟨rfl, hd⟩)
    | some i =>
      rw [hat] at hJ
      dsimp only at hJ ⊢
      have hi := S.Drv.at?_lt hat
      obtain ⟨hx1, hx2⟩ := hxl hi
      refine cond_i (fun _ => ?_) (fun h => absurd (of_decide_eq_false h) (Classical.not_not.2 (show (i : Int) ≥ 0 by omega)))
      refine ld1Q_i (l := .int .i64) (o := 1) o.off (fun x hx => v.ext hx) rfl ?_
      refine cond_i (fun h0 => ?_) (fun h0 => ?_)
      · have h0' : o.off ≥ 0 := of_decide_eq_true h0
        refine ld1Q_i (l := .int .i64) (o := 1) o.off (fun x hx => v.ext hx) rfl ?_
        refine nil_i rfl ?_
        obtain ⟨xa, hxa⟩ := h.t.xs.some (by omega)
        refine ld1Q_i (l := .slc) (o := 2) T.xS (fun x hx => (h.t.ext hx).var) rfl ?_
        refine elemQ_i (l := .slc) (x := T.sX i) hxa (fun x hx => (h.t.ext hx).xs) (by omega) (by omega) (by rw [Int.toNat_natCast, List.getElem?_map, List.getElem?_range hi]; rfl) ?_
        refine hJ _ _ ⟨?_, hd⟩
        by_cases hlt : o.off < ((T.sX i).len : Int)
        · rw [if_neg (by omega)]; simpa using hlt
        · rw [if_pos (by omega)]; simpa using hlt
      · have h0' : ¬ o.off ≥ 0 := of_decide_eq_false h0
        refine hJ _ _ ⟨?_, hd⟩
        rw [if_pos (by omega)]
  rintro c w1 ⟨hc, e1⟩
  have h1 := h.ext e1
  have v1 := v.ext e1
  refine join_i (fun (_ : Unit) w' => Fr (fun k => T.own D.as.length k) w1 w' ∧ TwinAt w' B gt T lf ar ks (D.badS o.name o.off o.on).2) ?_ fun J hJ => ?_
  · rintro _ w2 ⟨f2, t2⟩
    have v2 := v1.fr f2 fun hk => hg1 _ (.inl hk) rfl
    refine ld1_i (l := .str) (o := 3) (str o.name) v2 rfl ?_
    refine ld1_i (l := .int .i64) (o := 1) o.off v2 rfl ?_
    refine ld1_i (l := .bool) (o := 5) o.on v2 rfl ?_
    have d2 : DriveAt w2 gd L D := h1.d.fr f2 fun k hk hx => (h.dis k hk).2 hx
    refine dBad_s d2 ho.off fun w3 f3 d3 => ?_
    rw [str_toList] at d3 ⊢
    rw [← hc, beq_self_eq_true]
    have t3 : TwinAt w3 B gt T lf ar ks (D.badS o.name o.off o.on).2 := t2.frD h.inD (by rw [lk.n]; exact h.dis) f3
    have s1 := e1.size
    have s2 := f2.size
    have s3 := f3.size
    exact hK w3 L lf ar ks _ ((e1.fr.trans f2 fun k _ hk => h.t.ge.2 k hk).trans f3 fun k _ hk => h.inD k hk) (h.make (by omega) d3 t3 h.inD h.dis lk hs) lk
  · unfold S.Drv.badS at hc hJ
    cases hat : D.at? o.name with
    | none =>
      rw [hat] at hc hJ
      have hc' : c = false := hc
      rw [hc']
      exact cond_i (fun h => by cases h) (fun _ => hJ _ _ ⟨Fr.refl _ _, h1.t⟩)
    | some i =>
      rw [hat] at hc hJ
      dsimp only at hc hJ
      have hi := S.Drv.at?_lt hat
      obtain ⟨hx1, hx2⟩ := hxl hi
      have hr3' : r3 = (i : Int) := by rw [hr3]; unfold atI; rw [hat]
      subst hr3'
      by_cases ho2 : o.off < 0 ∨ o.off ≥ ((D.ar i).b.length : Int) / 64
      · rw [if_pos ho2] at hc hJ
        have hc' : c = false := hc
        rw [hc']
        exact cond_i (fun h => by cases h) (fun _ => hJ _ _ ⟨Fr.refl _ _, h1.t⟩)
      · rw [if_neg ho2] at hc hJ
        have hc' : c = true := hc
        rw [hc']
        refine cond_i (fun _ => ?_) (fun h => by cases h)
        have hd := Ext.drew w1
        refine ⟨fun x => Ext w1 x, hd, ?_⟩
        refine nil_i rfl ?_
        obtain ⟨xa, hxa⟩ := h1.t.xs.some (by omega)
        have hrow := h1.t.rX i hi
        obtain ⟨ra, hra⟩ := hrow.rd.some (by omega)
        refine ld1Q_i (l := .slc) (o := 2) T.xS (fun x hx => (h1.t.ext hx).var) rfl ?_
        refine elemQ_i (l := .slc) (x := T.sX i) hxa (fun x hx => (h1.t.ext hx).xs) (by omega) (by omega) (by rw [Int.toNat_natCast, List.getElem?_map, List.getElem?_range hi]; rfl) ?_
        refine ld1Q_i (l := .int .i64) (o := 1) o.off (fun x hx => v1.ext hx) rfl ?_
        refine ld1Q_i (l := .bool) (o := 5) o.on (fun x hx => v1.ext hx) rfl ?_
        refine ixQ_i hra (by omega) (by omega) ?_
        rw [Nat.mul_one]
        obtain ⟨⟨q, hu⟩, hfz, fr, o'⟩ := Own.set (hrow.ext hd) hra (i := o.off.toNat) (by omega) (Value.bool o.on)
        refine st_i hu hfz rfl ?_
        refine hJ _ _ ⟨hd.fr.trans fr fun k _ hk => .inr (.inr (.inr (.inr ⟨i, hi, hk⟩))), ?_⟩
        refine (h1.t.ext hd).upX hi fr ?_
        rw [badL_set (by omega) (by omega), List.map_set]
        exact o'
end
end Go.Proofs.Ytjphpadgbhegaaa
