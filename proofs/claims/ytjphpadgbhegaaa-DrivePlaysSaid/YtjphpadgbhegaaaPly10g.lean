/- Layer 10 (drive): a step of a play that turns bytes, or makes a sector bad. -/
import Derived.Test.YtjphpadgbhegaaaPly10f
set_option linter.unusedSimpArgs false
set_option linter.unusedVariables false
namespace Go.S
open Go Go.Eng
theorem xor_snoc {old xs : List UInt8} {off k : Nat} (hk : k < xs.length) (hl : off + xs.length ≤ old.length) :
    xorAt old (xs.take (k + 1)) off = (xorAt old (xs.take k) off).set (off + k) (old.getD (off + k) 0 ^^^ xs[k]) := by
  have l1 : (xs.take (k + 1)).length = k + 1 := by simp; omega
  have l0 : (xs.take k).length = k := by simp; omega
  apply List.ext_getElem?
  intro i
  by_cases hi : i < old.length
  · rw [xorAt_get hi, l1]
    by_cases hik : i = off + k
    · subst hik
      rw [List.getElem?_set_self (by rw [xorAt_length]; exact hi), if_pos ⟨by omega, by omega⟩]
      congr 2
      rw [List.getD_eq_getElem?_getD, List.getElem?_take, if_pos (by omega), show off + k - off = k by omega, List.getElem?_eq_getElem hk]; rfl
    · rw [List.getElem?_set_ne (Ne.symm hik), xorAt_get hi, l0]
      by_cases h : off ≤ i ∧ i < off + k
      · rw [if_pos ⟨h.1, by omega⟩, if_pos h]
        congr 2
        simp only [List.getD_eq_getElem?_getD]
        rw [List.getElem?_take, List.getElem?_take, if_pos (by omega), if_pos (by omega)]
      · rw [if_neg (by omega), if_neg h]
  · rw [List.getElem?_eq_none (by rw [xorAt_length]; omega), List.getElem?_eq_none (by simp [xorAt_length]; omega)]
theorem xor_at {old xs : List UInt8} {off k : Nat} (hk : off + k < old.length) : (xorAt old (xs.take k) off)[off + k]? = some (old.getD (off + k) 0) := by
  rw [xorAt_get hk, if_neg (by rw [List.length_take]; omega)]
theorem like_turn {D : Drv} {n : List UInt8} {off : Int} {xs : List UInt8} : Like D (D.turn n off xs).2 := by
  unfold Drv.turn
  cases hat : D.at? n with
  | none => exact Like.refl D
  | some i =>
    dsimp only
    split
    · exact Like.set (A := (D.ar i).setB (xorAt (D.ar i).b xs off.toNat)) (Drv.at?_lt hat) rfl (by rw [Area.setB_b, xorAt_length]) rfl rfl rfl
    · exact Like.refl D
theorem like_badS {D : Drv} {n : List UInt8} {s : Int} {on : Bool} : Like D (D.badS n s on).2 := by
  unfold Drv.badS
  cases hat : D.at? n with
  | none => exact Like.refl D
  | some i =>
    dsimp only
    split
    · exact Like.refl D
    · exact Like.set (A := (D.ar i).setBad fun k => if k = s then on else (D.ar i).bad k) (Drv.at?_lt hat) rfl rfl rfl rfl rfl
end Go.S
namespace Go.Proofs.Ytjphpadgbhegaaa
open Go Go.Eng
theorem badL_set {A : S.Area} {s : Int} {on : Bool} (h0 : 0 ≤ s) (h1 : s < (A.b.length : Int) / 64) : badL (A.setBad fun k => if k = s then on else A.bad k) = (badL A).set s.toNat on := by
  unfold badL
  rw [S.Area.setBad_b]
  apply List.ext_getElem?
  intro j
  rw [List.getElem?_set]
  by_cases hj : j < A.b.length / 64
  · by_cases hjs : s.toNat = j
    · subst hjs
      rw [if_pos rfl, if_pos (by simp; omega)]
      rw [List.getElem?_map, List.getElem?_range hj]
      simp only [Option.map_some, S.Area.setBad_bad]
      rw [if_pos (by omega)]
    · rw [if_neg hjs, List.getElem?_map, List.getElem?_map, List.getElem?_range hj]
      simp only [Option.map_some, S.Area.setBad_bad]
      rw [if_neg (by omega)]
  · rw [List.getElem?_eq_none (by simp; omega)]
    split
    · rw [if_neg (by simp; omega)]
    · rw [List.getElem?_eq_none (by simp; omega)]
section
variable {w w' : World} {B gd gt : Nat} {L : Lay} {T : TLay} {lf : Int} {ar : Bool} {ks : Sl} {D : S.Drv}
/-- Step 3: bytes turned. -/
theorem stepTurn_s {o : DOp} {g1 : Nat} {r3 : Int} {K : Bool → World → Prop} (h : Both w B gd gt L T lf ar ks D) (ho : o.Ok w) (v : Var w g1 o.cells) (hg1 : ∀ k, (T.own D.as.length k ∨ k = gt ∨ L.inD gd k) → k ≠ g1) (hs : D.count + 1 ≤ 1000000000 ∧ D.bytes + 1048576 ≤ 1000000000000000)
    (hr3 : r3 = atI D o.name) (hdl : o.dat.2.length ≤ 1000) (hsep : o.dat.2 ≠ [] → ∀ a, o.dat.1.a = some a → a.block < B) (hK : StepK B gd gt 0 T D w K) :
    joinS (σ := Bool) (fun b40 w =>
          semS Try.prog (Instr.loadAt 22 (.pointer (some (at_ g1 4)))) (.one .slc) (fun x42 w =>
          loopS (σ := Int) (fun x43 w again44 =>
            cond (decide (x43 < (x42.len : Int)))
              (semS Try.prog (Instr.indexAt 22 (.slice x42.a x42.len x42.cap) (.int .i64 x43)) (.one .adr) (fun x45 w =>
              semS Try.prog (Instr.loadAt 5 (.pointer (some x45))) (.one (.int .u8)) (fun x46 w =>
              cond b40
                (drawS w fun C w =>
                nilS (some (at_ gt 0)) fun a47 =>
                semQ Try.prog C (Instr.loadAt 50 (.pointer (some (a47.add 1)))) (.one .slc) (fun x48 =>
                semQ Try.prog C (Instr.indexAt 50 (.slice x48.a x48.len x48.cap) (.int .i64 r3)) (.one .adr) (fun x49 =>
                semQ Try.prog C (Instr.loadAt 22 (.pointer (some x49))) (.one .slc) (fun x50 =>
                semQ Try.prog C (Instr.loadAt 2 (.pointer (some (at_ g1 1)))) (.one (.int .i64)) (fun x51 =>
                semQ Try.prog C (Instr.indexAt 22 (.slice x50.a x50.len x50.cap) (.int .i64 (IntKind.wrap .i64 (x51 + x43)))) (.one .adr) (fun x52 =>
                semQ Try.prog C (Instr.loadAt 5 (.pointer (some x52))) (.one (.int .u8)) (fun x53 =>
                semQ Try.prog C (Instr.indexAt 22 (.slice x50.a x50.len x50.cap) (.int .i64 (IntKind.wrap .i64 (x51 + x43)))) (.one .adr) (fun x54 =>
                semU Try.prog (Instr.storeAt 5 (.pointer (some x54)) (.int .u8 (xorI .u8 x53 x46))) (fun w =>
                again44 (IntKind.wrap .i64 (x43 + 1)) w) w))))))))
                (again44 (IntKind.wrap .i64 (x43 + 1)) w)) w) w)
              (semS Try.prog (Instr.loadAt 9 (.pointer (some (at_ g1 3)))) (.one .str) (fun x55 w =>
              semS Try.prog (Instr.loadAt 2 (.pointer (some (at_ g1 1)))) (.one (.int .i64)) (fun x56 w =>
              semS Try.prog (Instr.loadAt 22 (.pointer (some (at_ g1 4)))) (.one .slc) (fun x57 w =>
              callS Try.prog 16 #[(.pointer (some (at_ gd 0))), (.string x55), (.int .i64 x56), (.slice x57.a x57.len x57.cap)] [(.one .bool)] (fun r58 w =>
              K (r58 == b40) w) w) w) w) w)) 0 w) w) fun J41 =>
        cond (decide (r3 ≥ 0))
          (semS Try.prog (Instr.loadAt 2 (.pointer (some (at_ g1 1)))) (.one (.int .i64)) (fun x59 w =>
            semS Try.prog (Instr.loadAt 22 (.pointer (some (at_ g1 4)))) (.one .slc) (fun x60 w =>
            callS Try.prog 33 #[(.pointer (some (at_ gt 0))), (.int .i64 r3), (.int .i64 x59), (.int .i64 (x60.len : Int))] [(.one .bool)] (fun r61 w =>
            J41 r61 w) w) w) w)
          (J41 false w) := by
  have hpl := Bts.len ho.dat
  have lk := S.like_turn (D := D) (n := o.name) (off := o.off) (xs := o.dat.2)
  refine join_i (fun c w' => c = (D.turn o.name o.off o.dat.2).1 ∧ w = w') ?_ fun J hJ => ?_
  rotate_left
  · subst hr3
    unfold atI
    unfold S.Drv.turn at hJ
    cases hat : D.at? o.name with
    | none =>
      rw [hat] at hJ
      exact cond_i (fun h => by simp at h) (fun _ => hJ _ _ ⟨rfl, rfl⟩)
    | some i =>
      rw [hat] at hJ
      dsimp only at hJ ⊢
      have hi := S.Drv.at?_lt hat
      refine cond_i (fun _ => ?_) (fun h => absurd (of_decide_eq_false h) (Classical.not_not.2 (show (i : Int) ≥ 0 by omega)))
      refine ld1_i (l := .int .i64) (o := 1) o.off v rfl ?_
      refine ld1_i (l := .slc) (o := 4) o.dat.1 v rfl ?_
      refine tin_s h.t hi (h.s.b i hi) ho.off ⟨by omega, by omega⟩ ?_
      rw [show ((o.dat.1.len : Nat) : Int) = ((o.dat.2.length : Nat) : Int) by rw [hpl]]
      refine hJ _ _ ⟨?_, rfl⟩
      cases S.within o.off o.dat.2.length (D.ar i).b.length <;> rfl
  rintro c w' ⟨hc, rfl⟩
  refine ld1_i (l := .slc) (o := 4) o.dat.1 v rfl ?_
  -- the loop's end: the program's own turn
  have fin : ∀ w1, Fr (wrB T gt D.as.length) w w1 → TwinAt w1 B gt T lf ar ks (D.turn o.name o.off o.dat.2).2 →
      semS Try.prog (Instr.loadAt 9 (.pointer (some (at_ g1 3)))) (.one .str) (fun x55 w =>
              semS Try.prog (Instr.loadAt 2 (.pointer (some (at_ g1 1)))) (.one (.int .i64)) (fun x56 w =>
              semS Try.prog (Instr.loadAt 22 (.pointer (some (at_ g1 4)))) (.one .slc) (fun x57 w =>
              callS Try.prog 16 #[(.pointer (some (at_ gd 0))), (.string x55), (.int .i64 x56), (.slice x57.a x57.len x57.cap)] [(.one .bool)] (fun r58 w =>
              K (r58 == c) w) w) w) w) w1 := fun w1 f1 t1 => by
    have wo : ∀ k, wrB T gt D.as.length k → T.own D.as.length k ∨ k = gt := fun k hk => by
      rcases hk with hk | ⟨i, hi, hk⟩
      · exact .inr hk
      · exact .inl (.inr (.inr (.inr (.inl ⟨i, hi, hk⟩))))
    have v1 := v.fr f1 fun hk => (wo _ hk).elim (fun q => hg1 _ (.inl q) rfl) fun q => hg1 _ (.inr (.inl q)) rfl
    refine ld1_i (l := .str) (o := 3) (str o.name) v1 rfl ?_
    refine ld1_i (l := .int .i64) (o := 1) o.off v1 rfl ?_
    refine ld1_i (l := .slc) (o := 4) o.dat.1 v1 rfl ?_
    have d1 : DriveAt w1 gd L D := h.d.fr f1 fun k hk hx => (wo _ hx).elim (h.dis k hk).2 (h.dis k hk).1
    have hdat : Bts w1 o.dat.1 o.dat.2 := rd_fr_ne ho.dat f1 fun hne a ha hx => by
      have := hsep (by simpa using hne) a ha
      have := (h.t.wr hx).1
      omega
    refine dTurn_s d1 ho.off hdat (by omega) (fun hne a ha hk => by have := hsep hne a ha; have := h.inD _ hk; omega) fun w2 f2 d2 => ?_
    rw [str_toList] at d2 ⊢
    rw [← hc, beq_self_eq_true]
    have t2 : TwinAt w2 B gt T lf ar ks (D.turn o.name o.off o.dat.2).2 := t1.frD h.inD (by rw [lk.n]; exact h.dis) f2
    exact hK w2 L lf ar ks _ ((f1.mono fun k _ hk => (h.t.wr hk).1).trans f2 fun k _ hk => h.inD k hk) (h.make (Nat.le_trans f1.size f2.size) d2 t2 h.inD h.dis lk hs) lk
  by_cases hct : c = true
  · -- the twin turns too
    rw [hct] at hc
    obtain ⟨i, hat, hw⟩ : ∃ i, D.at? o.name = some i ∧ S.within o.off o.dat.2.length (D.ar i).b.length = true := by
      unfold S.Drv.turn at hc
      cases hat : D.at? o.name with
      | none => rw [hat] at hc; cases hc
      | some i =>
        rw [hat] at hc
        refine ⟨i, rfl, ?_⟩
        cases hw : S.within o.off o.dat.2.length (D.ar i).b.length with
        | true => rfl
        | false => simp [hw] at hc
    have hi := S.Drv.at?_lt hat
    have hbl := h.s.b i hi
    have hwi := S.within_iff.1 hw
    have hr3' : r3 = (i : Int) := by rw [hr3]; unfold atI; rw [hat]
    have hD' : (D.turn o.name o.off o.dat.2).2 = D.set i ((D.ar i).setB (S.xorAt (D.ar i).b o.dat.2 o.off.toNat)) := by unfold S.Drv.turn; rw [hat]; dsimp only; rw [if_pos hw]
    rw [hD'] at fin
    subst hr3'
    have hset : ∀ A, (D.set i A).as.length = D.as.length := fun A => by simp [S.Drv.set]
    have har3 : ∀ A, (D.set i A).ar i = A := fun A => S.Drv.ar_set hi A
    refine loop_i (fun (x : Int) w' => ∃ k : Nat, k ≤ o.dat.2.length ∧ x = k ∧ Fr (wrB T gt D.as.length) w w' ∧ TwinAt w' B gt T lf ar ks (D.set i ((D.ar i).setB (S.xorAt (D.ar i).b (o.dat.2.take k) o.off.toNat)))) (fun x _ => o.dat.2.length - x.toNat) ⟨0, by omega, rfl, Fr.refl _ _, ?_⟩ ?_
    · have h0 : S.xorAt (D.ar i).b (o.dat.2.take 0) o.off.toNat = (D.ar i).b := by
        apply List.ext_getElem?
        intro j
        by_cases hj : j < (D.ar i).b.length
        · rw [S.xorAt_get hj, if_neg (by rw [List.take_zero, List.length_nil]; omega)]; simp [hj]
        · rw [List.getElem?_eq_none (by rw [S.xorAt_length]; omega), List.getElem?_eq_none (by omega)]
      rw [h0, S.Area.setB_self, S.Drv.set_self hi]; exact h.t
    rintro x w3 again ⟨k, hk, rfl, f3, h3⟩ hag
    have v3 := v.fr f3 fun hk => by
      rcases hk with hk | ⟨j, hj, hk⟩
      · exact hg1 _ (.inr (.inl hk)) rfl
      · exact hg1 _ (.inl (.inr (.inr (.inr (.inl ⟨j, hj, hk⟩))))) rfl
    have hdat3 : Bts w3 o.dat.1 o.dat.2 := rd_fr_ne ho.dat f3 fun hne a ha hx => by
      have := hsep (by simpa using hne) a ha
      have := (h.t.wr hx).1
      omega
    refine cond_i (fun hlt => ?_) (fun hge => ?_)
    · have hk' : k < o.dat.2.length := by have := of_decide_eq_true hlt; omega
      have hbv := (o.dat.2[k]'hk').toNat_lt
      refine elem_i (l := .int .u8) (x := ((o.dat.2[k]'hk').toNat : Int)) hdat3 (by omega) (by omega) (by simpa using bytes_get hk') ?_
      rw [hct]
      refine cond_i (fun _ => ?_) (fun h => by cases h)
      have hsn := S.xor_snoc (old := (D.ar i).b) (xs := o.dat.2) (off := o.off.toNat) (k := k) hk' (by omega)
      have hrow : OwnB w3 B (T.sB i) (S.xorAt (D.ar i).b (o.dat.2.take k) o.off.toNat) := by
        have := h3.rB i (by rw [hset]; exact hi)
        rw [har3] at this; exact this
      have hrl := OwnB.len hrow
      rw [S.xorAt_length] at hrl
      obtain ⟨ra, hra⟩ := hrow.rd.some (by omega)
      have hbsl : T.bS.len = D.as.length := by have := h.t.bs.len; simp at this; omega
      obtain ⟨ba, hba⟩ := h3.bs.some (by omega)
      have hd3 := Ext.drew w3
      have hcur := S.xor_at (old := (D.ar i).b) (xs := o.dat.2) (off := o.off.toNat) (k := k) (by omega)
      refine ⟨fun x => Ext w3 x, hd3, ?_⟩
      refine nil_i rfl ?_
      refine ld1Q_i (l := .slc) (o := 1) T.bS (fun x hx => (h3.ext hx).var) rfl ?_
      refine elemQ_i (l := .slc) (x := T.sB i) hba (fun x hx => (h3.ext hx).bs) (by omega) (by omega) (by rw [Int.toNat_natCast, List.getElem?_map, hset, List.getElem?_range hi]; rfl) ?_
      refine ld1Q_i (l := .int .i64) (o := 1) o.off (fun x hx => v3.ext hx) rfl ?_
      rw [wrap_i64 (x := o.off + (k : Int)) (by omega) (by omega)]
      refine elemQ_i (l := .int .u8) (x := (((D.ar i).b.getD (o.off.toNat + k) 0).toNat : Int)) hra (fun x hx => (hrow.ext hx).rd) (by omega) (by omega) (by rw [show (o.off + (k : Int)).toNat = o.off.toNat + k by omega, List.getElem?_map, hcur]; rfl) ?_
      refine ixQ_i hra (by omega) (by omega) ?_
      rw [show (o.off + (k : Int)).toNat * 1 = o.off.toNat + k by omega]
      have hrow' := hrow.ext hd3
      obtain ⟨⟨q, hu⟩, hfz, fr, o'⟩ := Own.set hrow' hra (i := o.off.toNat + k) (by omega) (vB ((D.ar i).b.getD (o.off.toNat + k) 0 ^^^ o.dat.2[k]'hk'))
      have hxor : xorI .u8 (((D.ar i).b.getD (o.off.toNat + k) 0).toNat : Int) ((o.dat.2[k]'hk').toNat : Int) = ((((D.ar i).b.getD (o.off.toNat + k) 0) ^^^ (o.dat.2[k]'hk')).toNat : Int) := by
        rw [xor_u8 (UInt8.toNat_lt _) hbv]; simp
      rw [hxor]
      refine st_i hu hfz rfl ?_
      have hob : OwnB (w3.drew.setCell (ra.add (o.off.toNat + k)) (vB ((D.ar i).b.getD (o.off.toNat + k) 0 ^^^ o.dat.2[k]'hk'))) B (T.sB i) (S.xorAt (D.ar i).b (o.dat.2.take (k + 1)) o.off.toNat) := by
        rw [hsn]
        unfold OwnB
        rw [List.map_set]; exact o'
      have t4 := (h3.ext hd3).upB (i := i) (by rw [hset]; exact hi) fr hob (by rw [har3, S.Area.setB_b, S.xorAt_length, S.xorAt_length])
      rw [har3, S.Area.setB_setB, S.Drv.set_set] at t4
      refine hag _ _ ⟨k + 1, by omega, ?_, (f3.then hd3).trans fr fun k _ hk => .inr ⟨i, hi, hk⟩, t4⟩ ?_
      · simp only [wrap_i64 (x := (k : Int) + 1) (by omega) (by omega)]; omega
      · simp only [wrap_i64 (x := (k : Int) + 1) (by omega) (by omega)]; omega
    · have hk' : k = o.dat.2.length := by have := of_decide_eq_false hge; omega
      subst hk'
      rw [List.take_length] at h3
      exact fin w3 f3 h3
  · have hcf : c = false := by simpa using hct
    rw [hcf] at hc
    have hD' : (D.turn o.name o.off o.dat.2).2 = D := by
      unfold S.Drv.turn at hc ⊢
      cases hat : D.at? o.name with
      | none => rfl
      | some i =>
        rw [hat] at hc
        dsimp only at hc ⊢
        split
        · rename_i hw; rw [if_pos hw] at hc; cases hc
        · rfl
    rw [hD'] at fin
    refine loop_i (fun (x : Int) w' => ∃ k : Nat, k ≤ o.dat.2.length ∧ x = k ∧ w = w') (fun x _ => o.dat.2.length - x.toNat) ⟨0, by omega, rfl, rfl⟩ ?_
    rintro x w3 again ⟨k, hk, rfl, rfl⟩ hag
    refine cond_i (fun hlt => ?_) (fun hge => fin w (Fr.refl _ _) h.t)
    have hk' : k < o.dat.2.length := by have := of_decide_eq_true hlt; omega
    refine elem_i (l := .int .u8) (x := ((o.dat.2[k]'hk').toNat : Int)) ho.dat (by omega) (by omega) (by simpa using bytes_get hk') ?_
    rw [hcf]
    refine cond_i (fun h => by cases h) (fun _ => ?_)
    refine hag _ w ⟨k + 1, by omega, ?_, rfl⟩ ?_
    · simp only [wrap_i64 (x := (k : Int) + 1) (by omega) (by omega)]; omega
    · simp only [wrap_i64 (x := (k : Int) + 1) (by omega) (by omega)]; omega
end
end Go.Proofs.Ytjphpadgbhegaaa
