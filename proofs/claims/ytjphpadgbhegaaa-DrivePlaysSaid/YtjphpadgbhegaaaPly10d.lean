/- Layer 10 (drive): the twin's write. -/
import Derived.Test.YtjphpadgbhegaaaPly10c
set_option linter.unusedSimpArgs false
set_option linter.unusedVariables false
namespace Go.Proofs.Ytjphpadgbhegaaa
open Go Go.Eng
section
variable {w w' : World} {B gt : Nat} {T : TLay} {lf : Int} {ar : Bool} {ks : Sl} {D : S.Drv}
/-- The blocks that a write turns. -/
def wrB (T : TLay) (gt n : Nat) (k : Nat) : Prop := k = gt ∨ ∃ i, i < n ∧ (T.sB i).inB k
theorem twrite_s {o : DOp} {K : Int → World → Prop} (h : TwinAt w B gt T lf ar ks D) (hD : Small D) (ho : o.Ok w) (hB : B ≤ w.heap.size) (hdl : o.dat.2.length ≤ 1000)
    (hsep : o.dat.2 ≠ [] → ∀ a, o.dat.1.a = some a → a.block < B) (hL : -1 ≤ D.left ∧ D.left ≤ 9223372036854775807)
    (hK : ∀ w' lf', Fr (wrB T gt D.as.length) w w' → TwinAt w' B gt T lf' ar ks (D.write o.name o.off o.dat.2).2 → K (D.write o.name o.off o.dat.2).1 w') :
    callS Try.prog 32 #[.pointer (some (at_ gt 0)), .agg o.cells.toArray] [.one (.int .i64)] K w := by
  refine f32_ok ?_
  unfold f32
  have hpl := Bts.len ho.dat
  refine box_i fun g1 w1 e1 hg1 v1 => ?_
  have v1 : Var w1 g1 o.cells := v1
  refine ld1_i (l := .str) (o := 3) (str o.name) v1 rfl ?_
  refine tpart_s (h.ext e1) hD.n fun w2 e2 => ?_
  rw [str_toList]
  have e12 := e1.trans e2
  have h2 := h.ext e12
  have v2 := v1.ext e2
  refine nil_i rfl ?_
  refine ld1_i (l := .bool) (o := 6) D.down h2.var rfl ?_
  cases hd : D.down with
  | true =>
    refine cond_i (fun _ => ?_) (fun h => by cases h)
    have := hK w2 lf e12.fr
    rw [S.write_dn hd] at this
    exact this h2
  | false =>
    refine cond_i (fun h => by cases h) (fun _ => ?_)
    unfold atI
    cases hat : D.at? o.name with
    | none =>
      refine cond_i (fun _ => ?_) (fun h => by cases h)
      have := hK w2 lf e12.fr
      rw [S.write_no hd hat] at this
      exact this h2
    | some i =>
      dsimp only
      have hi := S.Drv.at?_lt hat
      have hbl := hD.b i hi
      rw [S.write_at hd hat] at hK
      refine cond_i (fun h => absurd (of_decide_eq_true h) (show ¬ ((i : Int) < 0) by omega)) (fun _ => ?_)
      refine ld1_i (l := .int .i64) (o := 1) o.off v2 rfl ?_
      refine ld1_i (l := .slc) (o := 4) o.dat.1 v2 rfl ?_
      refine tin_s h2 hi hbl ho.off ⟨by omega, by omega⟩ ?_
      rw [show ((o.dat.1.len : Nat) : Int) = ((o.dat.2.length : Nat) : Int) by rw [hpl]]
      cases hw : S.within o.off o.dat.2.length (D.ar i).b.length with
      | false =>
        refine cond_i (fun _ => ?_) (fun h => by cases h)
        rw [if_pos hw] at hK
        exact hK w2 lf e12.fr h2
      | true =>
        refine cond_i (fun h => by cases h) (fun _ => ?_)
        rw [if_neg (by rw [hw]; simp)] at hK
        have hwi := S.within_iff.1 hw
        have harm := h.arm
        refine nil_i rfl ?_
        refine ld1_i (l := .bool) (o := 4) ar h2.var rfl ?_
        refine join_i (fun c w' => c = decide (D.left = 0) ∧ w2 = w') ?_ fun J hJ => ?_
        rotate_left
        · refine cond_i (fun hc => ?_) (fun hc => hJ _ _ ⟨?_, rfl⟩)
          · refine nil_i rfl ?_
            refine ld1_i (l := .int .i64) (o := 3) lf h2.var rfl (hJ _ _ ⟨?_, rfl⟩)
            rw [harm.2.1 hc, Bool.eq_iff_iff, beq_iff_eq, decide_eq_true_eq]
          · rw [harm.1] at hc
            have := of_decide_eq_false hc
            symm
            rw [decide_eq_false_iff_not]; omega
        rintro torn w' ⟨htorn, rfl⟩
        have hgt2 := h2.var.lt
        have hg1B : ∀ k, wrB T gt D.as.length k → k ≠ g1 := fun k hk e => by
          subst e
          rcases hk with hk | ⟨j, hj, hk⟩
          · have := h.var.lt; omega
          · have := (Own.inB (h.rB j hj) hk).2; omega
        have hkl : ks.len = D.keep.length := by have := h.keep.len; simp at this; omega
        refine ld1_i (l := .slc) (o := 4) o.dat.1 v2 rfl ?_
        refine loop_i (fun (x : Int) w' => ∃ k : Nat, k ≤ o.dat.2.length ∧ x = k ∧ Fr (wrB T gt D.as.length) w2 w' ∧ TwinAt w' B gt T lf ar ks (D.set i ((D.ar i).setB (S.over (D.ar i).b (o.dat.2.take k) o.off.toNat fun s => !torn || D.keep.getD s false)))) (fun x _ => o.dat.2.length - x.toNat) ⟨0, by omega, rfl, Fr.refl _ _, ?_⟩ ?_
        · have h0 : S.over (D.ar i).b (o.dat.2.take 0) o.off.toNat (fun s => !torn || D.keep.getD s false) = (D.ar i).b := by
            apply List.ext_getElem?
            intro j
            by_cases hj : j < (D.ar i).b.length
            · rw [S.over_get hj, if_neg (by rw [List.take_zero, List.length_nil]; omega)]; simp [hj]
            · rw [List.getElem?_eq_none (by rw [S.over_length]; omega), List.getElem?_eq_none (by omega)]
          rw [h0, S.Area.setB_self, S.Drv.set_self hi]; exact h2
        rintro x w3 again ⟨k, hk, rfl, f3, h3⟩ hag
        have v3 := v2.fr f3 fun hx => hg1B _ hx rfl
        have hdat3 : Bts w3 o.dat.1 o.dat.2 := rd_fr_ne (ho.dat.ext e12) f3 fun hne a ha hx => by
          have := hsep (by simpa using hne) a ha
          rcases hx with hx | ⟨j, hj, hx⟩
          · have := h.ge.1; omega
          · have := (Own.inB (h.rB j hj) hx).1; omega
        have hset : ∀ A, (D.set i A).as.length = D.as.length := fun A => by simp [S.Drv.set]
        have har3 : ∀ A, (D.set i A).ar i = A := fun A => S.Drv.ar_set hi A
        refine cond_i (fun hlt => ?_) (fun hge => ?_)
        · have hk' : k < o.dat.2.length := by have := of_decide_eq_true hlt; omega
          have hbv := (o.dat.2[k]'hk').toNat_lt
          refine elem_i (l := .int .u8) (x := ((o.dat.2[k]'hk').toNat : Int)) hdat3 (by omega) (by omega) (by simpa using bytes_get hk') ?_
          refine ld1_i (l := .int .i64) (o := 1) o.off v3 rfl ?_
          refine ld1_i (l := .int .i64) (o := 1) o.off v3 rfl ?_
          have hsn := S.over_snoc (old := (D.ar i).b) (bs := o.dat.2) (off := o.off.toNat) (k := k) (p := fun s => !torn || D.keep.getD s false) hk' (by omega)
          have hsi : (((o.off + (k : Int)) / 64 - o.off / 64).toNat) = (o.off.toNat + k) / 64 - o.off.toNat / 64 := by omega
          have again' : ∀ w', Fr (wrB T gt D.as.length) w2 w' → TwinAt w' B gt T lf ar ks (D.set i ((D.ar i).setB (S.over (D.ar i).b (o.dat.2.take (k + 1)) o.off.toNat fun s => !torn || D.keep.getD s false))) → again (IntKind.wrap .i64 ((k : Int) + 1)) w' := fun w' f t => by
            refine hag _ w' ⟨k + 1, by omega, ?_, f, t⟩ ?_
            · simp only [wrap_i64 (x := (k : Int) + 1) (by omega) (by omega)]; omega
            · simp only [wrap_i64 (x := (k : Int) + 1) (by omega) (by omega)]; omega
          refine join_i (fun c w' => c = (!torn || D.keep.getD ((o.off.toNat + k) / 64 - o.off.toNat / 64) false) ∧ w3 = w') ?_ fun J hJ => ?_
          · rintro c w' ⟨hc, rfl⟩
            rw [← hc] at hsn
            refine cond_i (fun hct => ?_) (fun hcf => ?_)
            · rw [if_pos hct] at hsn
              have hrow : OwnB w3 B (T.sB i) (S.over (D.ar i).b (o.dat.2.take k) o.off.toNat fun s => !torn || D.keep.getD s false) := by
                have := h3.rB i (by rw [hset]; exact hi)
                rw [har3] at this; exact this
              have hrl := OwnB.len hrow
              rw [S.over_length] at hrl
              obtain ⟨ra, hra⟩ := hrow.rd.some (by omega)
              have hbsl : T.bS.len = D.as.length := by have := h.bs.len; simp at this; omega
              obtain ⟨ba, hba⟩ := h3.bs.some (by omega)
              have hd3 := Ext.drew w3
              refine ⟨fun x => Ext w3 x, hd3, ?_⟩
              refine nil_i rfl ?_
              refine ld1Q_i (l := .slc) (o := 1) T.bS (fun x hx => (h3.ext hx).var) rfl ?_
              refine elemQ_i (l := .slc) (x := T.sB i) hba (fun x hx => (h3.ext hx).bs) (by omega) (by omega) (by rw [Int.toNat_natCast, List.getElem?_map, hset, List.getElem?_range hi]; rfl) ?_
              refine ld1Q_i (l := .int .i64) (o := 1) o.off (fun x hx => v3.ext hx) rfl ?_
              rw [wrap_i64 (x := o.off + (k : Int)) (by omega) (by omega)]
              refine ixQ_i hra (by omega) (by omega) ?_
              rw [show (o.off + (k : Int)).toNat * 1 = o.off.toNat + k by omega]
              have hrow' := hrow.ext hd3
              obtain ⟨⟨q, hu⟩, hfz, fr, o'⟩ := Own.set hrow' hra (i := o.off.toNat + k) (by omega) (vB (o.dat.2[k]'hk'))
              refine st_i hu hfz rfl ?_
              have hob : OwnB (w3.drew.setCell (ra.add (o.off.toNat + k)) (vB (o.dat.2[k]'hk'))) B (T.sB i) (S.over (D.ar i).b (o.dat.2.take (k + 1)) o.off.toNat fun s => !torn || D.keep.getD s false) := by
                rw [hsn]
                unfold OwnB
                rw [List.map_set]; exact o'
              have t4 := (h3.ext hd3).upB (i := i) (by rw [hset]; exact hi) fr hob (by rw [har3, S.Area.setB_b, S.over_length, S.over_length])
              rw [har3, S.Area.setB_setB, S.Drv.set_set] at t4
              exact again' _ ((f3.then hd3).trans fr fun k _ hk => .inr ⟨i, hi, hk⟩) t4
            · rw [if_neg (by rw [hcf]; simp)] at hsn
              exact again' _ f3 (by rw [hsn]; exact h3)
          · rw [wrap_i64 (x := o.off + (k : Int)) (by omega) (by omega), Int.tdiv_eq_ediv_of_nonneg (a := o.off + (k : Int)) (by omega), Int.tdiv_eq_ediv_of_nonneg (a := o.off) (by omega), wrap_i64 (x := (o.off + (k : Int)) / 64) (by omega) (by omega), wrap_i64 (x := o.off / 64) (by omega) (by omega), wrap_i64 (x := (o.off + (k : Int)) / 64 - o.off / 64) (by omega) (by omega)]
            cases torn with
            | false => exact cond_i (fun _ => hJ _ _ ⟨rfl, rfl⟩) (fun h => by cases h)
            | true =>
              refine cond_i (fun h => by cases h) (fun _ => ?_)
              refine nil_i rfl ?_
              refine ld1_i (l := .slc) (o := 5) ks h3.var rfl ?_
              refine join_i (fun c w' => c = D.keep.getD ((o.off.toNat + k) / 64 - o.off.toNat / 64) false ∧ w3 = w') (fun c w' hc => hJ _ _ ⟨by rw [hc.1]; rfl, hc.2⟩) fun J2 hJ2 => ?_
              refine cond_i (fun hlt2 => ?_) (fun hge2 => ?_)
              · have hin : (o.off.toNat + k) / 64 - o.off.toNat / 64 < D.keep.length := by have := of_decide_eq_true hlt2; omega
                refine nil_i rfl ?_
                refine ld1_i (l := .slc) (o := 5) ks h3.var rfl ?_
                refine elem_i (l := .bool) (x := D.keep.getD ((o.off.toNat + k) / 64 - o.off.toNat / 64) false) h3.keep (by omega) (by omega) ?_ (hJ2 _ _ ⟨rfl, rfl⟩)
                rw [hsi, List.getElem?_map, show (D.set i ((D.ar i).setB (S.over (D.ar i).b (o.dat.2.take k) o.off.toNat fun s => !true || D.keep.getD s false))).keep = D.keep from rfl, List.getElem?_eq_getElem hin, List.getD_eq_getElem?_getD, List.getElem?_eq_getElem hin]; rfl
              · have hin : ¬ (o.off.toNat + k) / 64 - o.off.toNat / 64 < D.keep.length := by have := of_decide_eq_false hge2; omega
                refine hJ2 _ _ ⟨?_, rfl⟩
                rw [List.getD_eq_getElem?_getD, List.getElem?_eq_none (by omega)]; rfl
        · have hk' : k = o.dat.2.length := by have := of_decide_eq_false hge; omega
          subst hk'
          rw [List.take_length] at h3
          have F3 : Fr (wrB T gt D.as.length) w w3 := (e12.fr).trans' f3
          cases ht : torn with
          | true =>
            subst ht
            have hl0 : D.left = 0 := of_decide_eq_true htorn.symm
            rw [if_neg (by simpa using hl0)] at hK
            have hp : (fun s => !true || D.keep.getD s false) = fun s => D.keep.getD s false := by funext s; rfl
            rw [hp] at h3
            refine join_i (fun (_ : Unit) w' => w3 = w') ?_ fun J hJ => ?_
            · rintro _ w' rfl
              refine cond_i (fun _ => ?_) (fun h => by cases h)
              refine nil_i rfl ?_
              refine st1_i (o := 6) h3.var (show 6 < 9 by decide) rfl fun w5 f5 v5 => ?_
              refine hK w5 lf (F3.trans f5 fun k _ hk => .inl hk) ?_
              exact h3.upVar f5 v5 rfl (rd_fr_ne h3.keep f5 fun hne a ha e => by have e2 : a.block = gt := e; have := h3.kne (by simpa using hne) a ha; have := h.ge.1; omega) h3.arm h3.kne
            · refine nil_i rfl ?_
              refine ld1_i (l := .bool) (o := 4) ar h3.var rfl ?_
              exact cond_i (fun h => by simp at h) (fun _ => hJ _ _ rfl)
          | false =>
            subst ht
            have hl0 : D.left ≠ 0 := of_decide_eq_false htorn.symm
            rw [if_pos hl0] at hK
            have hp : (fun s => !false || D.keep.getD s false) = fun _ => true := by funext s; rfl
            rw [hp] at h3
            refine join_i (fun (_ : Unit) w' => ∃ lf', Fr (wrB T gt D.as.length) w w' ∧ TwinAt w' B gt T lf' ar ks { D.set i ((D.ar i).setB (S.over (D.ar i).b o.dat.2 o.off.toNat fun _ => true)) with left := max (D.left - 1) (-1) }) ?_ fun J hJ => ?_
            · rintro _ w' ⟨lf', F, t⟩
              exact cond_i (fun h => by cases h) (fun _ => hK w' lf' F t)
            · refine nil_i rfl ?_
              refine ld1_i (l := .bool) (o := 4) ar h3.var rfl ?_
              refine cond_i (fun ha => ?_) (fun ha => ?_)
              · have har : ar = true := by simpa using ha
                have hlf := harm.2.1 har
                have hge0 : 0 ≤ D.left := by have := harm.1; rw [har] at this; exact of_decide_eq_true this.symm
                refine nil_i rfl ?_
                refine ld1_i (l := .int .i64) (o := 3) lf h3.var rfl ?_
                refine nil_i rfl ?_
                refine st1_i (o := 3) h3.var (show 3 < 9 by decide) rfl fun w5 f5 v5 => ?_
                rw [wrap_i64 (x := lf - 1) (by omega) (by omega)] at v5
                refine hJ _ _ ⟨lf - 1, F3.trans f5 fun k _ hk => .inl hk, ?_⟩
                refine h3.upVar f5 v5 rfl (rd_fr_ne h3.keep f5 fun hne a ha e => by have e2 : a.block = gt := e; have := h3.kne (by simpa using hne) a ha; have := h.ge.1; omega) ⟨?_, fun _ => ?_, ?_⟩ h3.kne
                · rw [har]; symm; rw [decide_eq_true_eq]; show 0 ≤ max (D.left - 1) (-1); omega
                · show lf - 1 = max (D.left - 1) (-1); omega
                · constructor <;> omega
              · have har : ar = false := by simpa using ha
                have hneg : D.left = -1 := by have := harm.1; rw [har] at this; have := of_decide_eq_false this.symm; omega
                refine hJ _ _ ⟨lf, F3, ?_⟩
                have hle : max (D.left - 1) (-1) = D.left := by omega
                rw [hle]
                exact h3
end
end Go.Proofs.Ytjphpadgbhegaaa
