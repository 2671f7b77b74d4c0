/- Layer 14 (tail): Load, Store, made, anchor. -/
import Derived.Test.YtepjheacppoelaaTail14c
set_option linter.unusedSimpArgs false
set_option linter.unusedVariables false
namespace Go.Proofs.Ytepjheacppoelaa
open Go Go.Eng
section
variable {w : World} {gd : Nat} {L : Lay} {D : S.Drv}
theorem size_bd (h : DriveAt w gd L D) (n : List UInt8) : 0 ≤ (D.size n).1 ∧ (D.size n).1 ≤ 1048576 := by
  unfold S.Drv.size
  cases hi : D.at? n with
  | none => simp
  | some i =>
    have := (h.areas i (S.Drv.at?_lt hi)).len
    simp only
    omega
theorem tload_s {name : ByteArray} {K : Sl → Int → Int → Int → Int → World → Prop} (h : DriveAt w gd L D)
    (hK : ∀ v w', Fr (fun k => k = gd) w w' → DriveAt w' gd L (S.tLoad D name.toList).2.2.2 → OwnB w' w.heap.size v (S.tLoad D name.toList).1 → K v (S.tLoad D name.toList).2.1.d (S.tLoad D name.toList).2.1.o (S.tLoad D name.toList).2.1.s (S.tLoad D name.toList).2.2.1 w') :
    callS Try.prog 18 #[.pointer (some (at_ gd 0)), .string name] [.one .slc, .agg lT, .one (.int .i64)] K w := by
  refine f18_ok ?_
  unfold f18
  refine alloc_i fun g1 w1 e1 hg1 v1 => ?_
  have hgl := h.lt (.inl rfl)
  have h1 := h.ext e1
  have hsz := size_bd h name.toList
  have hne : g1 ≠ gd := by omega
  have fin : ∀ {w6 w7 : World} {D6 : S.Drv} (v : Sl) (t : S.Tl) (e : Int) (r : List UInt8), Fr (fun k => k = gd) w1 w6 → DriveAt w6 gd L D6 → Fr (fun k => k = g1) w6 w7 → OwnB w7 w.heap.size v r → S.tLoad D name.toList = (r, t, e, D6) → Var w7 g1 (tls t) →
      ∃ vv, (loadVar 25 (at_ g1 0)).run Try.prog w7 = .ok vv w7 ∧ decR [.one .slc, .agg lT, .one (.int .i64)] (.tuple #[.slice v.a v.len v.cap, vv, .int .i64 e]) K fun r => r w7 := fun {w6 w7 D6} v t e r f6 d6 f7 o7 he v7 => by
    refine resV_i (R := fun vv => decR [.one .slc, .agg lT, .one (.int .i64)] (.tuple #[.slice v.a v.len v.cap, vv, .int .i64 e]) K fun r => r w7) (n := 3) v7 rfl ?_
    have := hK v w7 ((e1.fr.trans' f6).trans f7 fun k _ hk => by omega)
    rw [he] at this
    exact this (d6.fr f7 fun k hk hk2 => by have := h.lt hk; omega) o7
  have err : ∀ {w6 : World} {D6 : S.Drv} {cs : List Value} (e : Int), Fr (fun k => k = gd) w1 w6 → DriveAt w6 gd L D6 → Var w6 g1 cs → cs.length = 3 → S.tLoad D name.toList = ([], .zero, e, D6) →
      semU Try.prog (Instr.storeAt 25 (.pointer (some (at_ g1 0))) (.agg #[.int .i64 0, .int .i64 0, .int .i64 0])) (fun w =>
        ∃ v, (loadVar 25 (at_ g1 0)).run Try.prog w = .ok v w ∧ decR [.one .slc, .agg lT, .one (.int .i64)] (.tuple #[.slice none 0 0, v, .int .i64 e]) K fun r => r w) w6 := fun {w6 D6 cs} e f6 d6 v6 hl he => by
    refine stT_i v6 hl fun w7 f7 v7 => ?_
    exact fin Sl.nil .zero e [] f6 d6 f7 (Own.nilSl _ _ _) he v7
  refine dSize_s h1 ?_
  refine join_i (fun b w' => b = decide ((D.size name.toList).2 ≠ 0 ∧ D.down = false) ∧ w1 = w') ?_ fun J hJ => ?_
  rotate_left
  · refine cond_i (fun hz => dDown_s h1 (hJ _ _ ⟨?_, rfl⟩)) (fun hz => hJ _ _ ⟨?_, rfl⟩)
    · have : (D.size name.toList).2 ≠ 0 := by simpa using hz
      cases D.down <;> simp [this]
    · have : (D.size name.toList).2 = 0 := by simpa using hz
      simp [this]
  rintro b w' ⟨hb, rfl⟩
  refine cond_i (fun hbt => ?_) (fun hbf => ?_)
  · have hc : (D.size name.toList).2 ≠ 0 ∧ D.down = false := by rw [hbt] at hb; simpa using hb.symm
    exact err _ (Fr.refl _ _) h1 v1 rfl (by unfold S.tLoad; rw [if_pos hc])
  · have hc : ¬ ((D.size name.toList).2 ≠ 0 ∧ D.down = false) := by rw [hbf] at hb; exact of_decide_eq_false hb.symm
    rw [wrap_i64 (x := (D.size name.toList).1 - 64) (by omega) (by omega)]
    have hld : S.tLoad D name.toList = if (D.read name.toList ((D.size name.toList).1 - 64) 64).2.1 ≠ 0 then ([], .zero, (D.read name.toList ((D.size name.toList).1 - 64) 64).2.1, (D.read name.toList ((D.size name.toList).1 - 64) 64).2.2) else S.tLoad2 (D.read name.toList ((D.size name.toList).1 - 64) 64).1 (D.read name.toList ((D.size name.toList).1 - 64) 64).2.2 name.toList ((D.size name.toList).1 - 64) := by unfold S.tLoad; rw [if_neg hc]
    refine dRead_s h1 ⟨by omega, by omega⟩ ⟨by omega, by omega⟩ fun v w2 f2 d2 o2 => ?_
    have hle := S.read_le D name.toList ((D.size name.toList).1 - 64) 64
    have v2 := v1.fr f2 hne
    generalize D.read name.toList ((D.size name.toList).1 - 64) 64 = R at hld d2 o2 hle ⊢
    obtain ⟨rb, re, rD⟩ := R
    simp only at hld d2 o2 hle ⊢
    refine cond_i (fun hz => ?_) (fun hz => ?_)
    · have hz' : re ≠ 0 := by simpa using hz
      exact err _ f2 d2 v2 rfl (by rw [hld, if_pos hz'])
    · have hz' : re = 0 := by simpa using hz
      rw [if_neg (Classical.not_not.2 hz')] at hld
      unfold S.tLoad2 at hld
      refine tparse_s o2.rd (by have : (64 : Int).toNat = 64 := rfl; omega) fun w3 e3 => ?_
      have v3 := v2.ext e3
      refine stT_i v3 rfl fun w4 f4 v4 => ?_
      have v4 : Var w4 g1 (tls (S.tParse rb)) := v4
      have d4 : DriveAt w4 gd L rD := (d2.ext e3).fr f4 fun k hk hk2 => by have := h.lt hk; omega
      have f14 : Fr (fun k => k = gd ∨ k = g1) w1 w4 := ((f2.mono fun k _ h => .inl h).then e3).trans f4 fun k _ h => .inr h
      -- a world behind the store: w1 is left, but for g1
      have fin4 : ∀ {w6 w7 : World} {D6 : S.Drv} (v : Sl) (t : S.Tl) (e : Int) (r : List UInt8), Fr (fun k => k = gd) w4 w6 → DriveAt w6 gd L D6 → Fr (fun k => k = g1) w6 w7 → OwnB w7 w.heap.size v r → S.tLoad D name.toList = (r, t, e, D6) → Var w7 g1 (tls t) →
          ∃ vv, (loadVar 25 (at_ g1 0)).run Try.prog w7 = .ok vv w7 ∧ decR [.one .slc, .agg lT, .one (.int .i64)] (.tuple #[.slice v.a v.len v.cap, vv, .int .i64 e]) K fun r => r w7 := fun {w6 w7 D6} v t e r f6 d6 f7 o7 he v7 => by
        refine resV_i (R := fun vv => decR [.one .slc, .agg lT, .one (.int .i64)] (.tuple #[.slice v.a v.len v.cap, vv, .int .i64 e]) K fun r => r w7) (n := 3) v7 rfl ?_
        have := hK v w7 (((e1.fr.trans f14 fun k hk h => by rcases h with h | h; exact h; omega).trans' f6).trans f7 fun k _ hk => by omega)
        rw [he] at this
        exact this (d6.fr f7 fun k hk hk2 => by have := h.lt hk; omega) o7
      have err4 : ∀ {w6 : World} {D6 : S.Drv} {cs : List Value} (e : Int), Fr (fun k => k = gd) w4 w6 → DriveAt w6 gd L D6 → Var w6 g1 cs → cs.length = 3 → S.tLoad D name.toList = ([], .zero, e, D6) →
          semU Try.prog (Instr.storeAt 25 (.pointer (some (at_ g1 0))) (.agg #[.int .i64 0, .int .i64 0, .int .i64 0])) (fun w =>
            ∃ v, (loadVar 25 (at_ g1 0)).run Try.prog w = .ok v w ∧ decR [.one .slc, .agg lT, .one (.int .i64)] (.tuple #[.slice none 0 0, v, .int .i64 e]) K fun r => r w) w6 := fun {w6 D6 cs} e f6 d6 v6 hl he => by
        refine stT_i v6 hl fun w7 f7 v7 => ?_
        exact fin4 Sl.nil .zero e [] f6 d6 f7 (Own.nilSl _ _ _) he v7
      refine cond_i (fun hz => ?_) (fun hz => ?_)
      · have hz' : S.tErr rb ≠ 0 := by simpa using hz
        exact err4 _ (Fr.refl _ _) d4 v4 rfl (by rw [hld, if_pos hz'])
      · have hz' : S.tErr rb = 0 := by simpa using hz
        rw [if_neg (Classical.not_not.2 hz')] at hld
        have hp : S.tParse rb = S.tAt rb := by unfold S.tParse; rw [if_pos hz']
        rw [hp] at v4
        have hri : (S.tAt rb).right = true := by
          unfold S.tErr at hz'
          split at hz'
          · simp at hz'
          · split at hz'
            · simp at hz'
            · split at hz'
              · simp at hz'
              · split at hz'
                · simp at hz'
                · rename_i hx
                  cases hy : (S.tAt rb).right with
                  | true => rfl
                  | false => exact absurd (Or.inl hy) hx
        have hti := S.tright_iff.1 hri
        generalize S.tAt rb = t at v4 hld hti
        refine ld1_i (l := .int .i64) t.o v4 rfl ?_
        refine ld1_i (l := .int .i64) t.s v4 rfl ?_
        refine within_s ⟨by omega, by omega⟩ ⟨by omega, by omega⟩ ⟨by omega, by omega⟩ ?_
        cases hw : S.within t.o t.s ((D.size name.toList).1 - 64) with
        | false =>
          rw [if_pos hw] at hld
          exact cond_i (fun _ => err4 _ (Fr.refl _ _) d4 v4 rfl hld) (fun h => by cases h)
        | true =>
          rw [if_neg (by rw [hw]; simp)] at hld
          refine cond_i (fun h => by cases h) (fun _ => ?_)
          refine ld1_i (l := .int .i64) t.o v4 rfl ?_
          refine ld1_i (l := .int .i64) t.s v4 rfl ?_
          refine dRead_s d4 ⟨by omega, by omega⟩ ⟨by omega, by omega⟩ fun v w5 f5 d5 o5 => ?_
          generalize rD.read name.toList t.o t.s = R at hld d5 o5 ⊢
          obtain ⟨rb2, re2, rD2⟩ := R
          simp only at hld d5 o5 ⊢
          have v5 := v4.fr f5 hne
          refine cond_i (fun hz => ?_) (fun hz => ?_)
          · have hz2 : re2 ≠ 0 := by simpa using hz
            exact err4 _ f5 d5 v5 rfl (by rw [hld, if_pos hz2])
          · have hz2 : re2 = 0 := by simpa using hz
            rw [if_neg (Classical.not_not.2 hz2)] at hld
            have hd := Ext.drew w5
            refine ⟨fun x => Ext w5 x, hd, ?_⟩
            refine ldTQ_i (a := t) (fun x hx => v5.ext hx) ?_
            refine stT_i (v5.ext hd) rfl fun w7 f7 v7 => ?_
            have hg1l := v4.lt
            have o7 : OwnB w7 w4.heap.size v rb2 := (o5.ext hd).fr f7 fun a ha hk => by
              have := (o5.inB ⟨a, ha, rfl⟩).1; omega
            refine fin4 (w6 := w5.drew) v t 0 rb2 (f5.then hd) (d5.ext hd) f7 (o7.base ?_) hld v7
            have := e1.size; have := f14.size; omega
theorem tstore_s {name : ByteArray} {data : Int} {p : Sl} {raw : List UInt8} {K : Int → World → Prop} (h : DriveAt w gd L D) (hdata : S.I64 data) (hp : Bts w p raw) (hsep : raw ≠ [] → ∀ a, p.a = some a → ¬ L.inD gd a.block)
    (hK : ∀ w', Fr (L.inD gd) w w' → DriveAt w' gd L (S.tStore D name.toList data raw).2 → K (S.tStore D name.toList data raw).1 w') :
    callS Try.prog 17 #[.pointer (some (at_ gd 0)), .string name, .int .i64 data, .slice p.a p.len p.cap] [.one (.int .i64)] K w := by
  refine f17_ok ?_
  unfold f17
  have hpl := Bts.len hp
  have hsz := size_bd h name.toList
  unfold S.tStore at hK
  refine dSize_s h ?_
  refine cond_i (fun hz => ?_) (fun hz => ?_)
  · have hz' : (D.size name.toList).2 ≠ 0 := by simpa using hz
    rw [if_pos hz'] at hK
    exact hK w (Fr.refl _ _) h
  · have hz' : (D.size name.toList).2 = 0 := by simpa using hz
    rw [if_neg (Classical.not_not.2 hz')] at hK
    refine cond_i (fun hz => ?_) (fun hz => ?_)
    · have hc : data < 0 ∨ raw.length < 1 ∨ raw.length > 65536 := by simp at hz; omega
      rw [if_pos hc] at hK
      exact hK w (Fr.refl _ _) h
    · have hc : ¬ (data < 0 ∨ raw.length < 1 ∨ raw.length > 65536) := by simp at hz; omega
      rw [if_neg hc] at hK
      refine align_s hdata ⟨by omega, by omega⟩ ?_
      have hal : (S.align data 64).2 = 0 → 0 ≤ (S.align data 64).1 ∧ (S.align data 64).1 ≤ 4611686018427387904 := by
        unfold S.align
        split
        · intro h; simp at h
        · split
          · intro h; simp at h
          · split
            · intro _; simp only; omega
            · intro h; simp at h
      refine join_i (fun b w' => b = decide ((S.align data 64).2 ≠ 0 ∨ S.within (S.align data 64).1 raw.length ((D.size name.toList).1 - 64) = false) ∧ w = w') ?_ fun J hJ => ?_
      rotate_left
      · refine cond_i (fun ha => hJ _ _ ⟨?_, rfl⟩) (fun ha => ?_)
        · have : (S.align data 64).2 ≠ 0 := by simpa using ha
          simp [this]
        · have ha0 : (S.align data 64).2 = 0 := by simpa using ha
          have := hal ha0
          rw [wrap_i64 (x := (D.size name.toList).1 - 64) (by omega) (by omega)]
          refine within_s ⟨by omega, by omega⟩ ⟨by omega, by omega⟩ ⟨by omega, by omega⟩ (hJ _ _ ⟨?_, rfl⟩)
          rw [show ((p.len : Nat) : Int) = ((raw.length : Nat) : Int) by rw [hpl], ha0]
          cases S.within (S.align data 64).1 raw.length ((D.size name.toList).1 - 64) <;> simp
      rintro b w' ⟨hb, rfl⟩
      refine cond_i (fun hbt => ?_) (fun hbf => ?_)
      · have hc2 : (S.align data 64).2 ≠ 0 ∨ S.within (S.align data 64).1 raw.length ((D.size name.toList).1 - 64) = false := by rw [hbt] at hb; exact of_decide_eq_true hb.symm
        rw [if_pos hc2] at hK
        exact hK w (Fr.refl _ _) h
      · have hc2 : ¬ ((S.align data 64).2 ≠ 0 ∨ S.within (S.align data 64).1 raw.length ((D.size name.toList).1 - 64) = false) := by rw [hbf] at hb; exact of_decide_eq_false hb.symm
        rw [if_neg hc2] at hK
        have ha0 : (S.align data 64).2 = 0 := Classical.not_not.1 fun hx => hc2 (.inl hx)
        have hbd := hal ha0
        refine dWrite_s h ⟨by omega, by omega⟩ hp (by omega) hsep fun w2 f2 d2 => ?_
        generalize D.write name.toList (S.align data 64).1 raw = R at hK d2 ⊢
        obtain ⟨re, rD⟩ := R
        simp only at hK d2 ⊢
        refine cond_i (fun hz => ?_) (fun hz => ?_)
        · have hz2 : re ≠ 0 := by simpa using hz
          rw [if_pos hz2] at hK
          exact hK w2 f2 d2
        · have hz2 : re = 0 := by simpa using hz
          rw [if_neg (Classical.not_not.2 hz2)] at hK
          refine tbytes_s (t := ⟨data, (S.align data 64).1, (p.len : Int)⟩) ?_ fun v w3 e3 o3 => ?_
          · unfold putT; simp only; omega
          · rw [wrap_i64 (x := (D.size name.toList).1 - 64) (by omega) (by omega)]
            rw [hpl] at o3
            refine dWrite_s (d2.ext e3) ⟨by omega, by omega⟩ o3.rd (by rw [S.tB_len]; omega) (fun _ a ha hd => ?_) fun w4 f4 d4 => ?_
            · have := (o3.inB ⟨a, ha, rfl⟩).1
              have := d2.lt hd
              omega
            · exact hK w4 ((f2.then e3).trans' f4) d4
end
theorem made_s {k : Int} {K : Option Addr → World → Prop} {w : World} (hk : S.I64 k)
    (hBad : ∀ w', Ext w w' → S.made [([112], k)] ≠ 0 → K none w')
    (hOk : ∀ gd L w', Ext w w' → S.made [([112], k)] = 0 → w.heap.size ≤ gd → (∀ k, L.inD gd k → w.heap.size ≤ k) → DriveAt w' gd L (S.one [112] (List.replicate k.toNat 0) (fun _ => false) (-1) [] false 0 0) → K (some (at_ gd 0)) w') :
    callS Try.prog 14 #[.int .i64 k] [.one .ptr] K w := by
  refine f14_ok ?_
  unfold f14
  refine newOne_s (name := [112]) rfl hk (by decide) (fun w' e h => ?_) fun gd L w' e h h1 h2 h3 => ?_
  · exact cond_i (fun _ => hBad w' e h) (fun hz => absurd (by simpa using hz) h)
  · exact cond_i (fun h => by cases h) (fun _ => hOk gd L w' e h h1 h2 h3)
theorem p_toList : (ByteArray.mk #[112]).toList = [112] := str_toList [112]
theorem q_toList : (ByteArray.mk #[113]).toList = [113] := str_toList [113]
theorem fit_one {b : List UInt8} {bad : Int → Bool} {left : Int} {keep : List Bool} {c n : Int} {name : List UInt8} : S.Fit (S.one name b bad left keep false c n) name 0 ⟨name, b, bad⟩ := ⟨S.at?_one, rfl, rfl⟩
end Go.Proofs.Ytepjheacppoelaa
