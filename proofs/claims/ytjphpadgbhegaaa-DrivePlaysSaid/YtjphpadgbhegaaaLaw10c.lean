/- Layer 10 (drive): the laws DriveCounts and DriveTwice. -/
import Derived.Test.YtjphpadgbhegaaaLaw10b
set_option linter.unusedSimpArgs false
set_option linter.unusedVariables false
namespace Go.Proofs.Ytjphpadgbhegaaa
open Go Go.Eng
theorem a_toList : (ByteArray.mk #[97]).toList = [97] := str_toList [97]
theorem DriveCounts_s {p0 : Sl} {bad : Int} {l : List (Int × Int)} {K : Bool → World → Prop} {w : World} (hrI : Rds w p0 2 (l.map fun x => [.int .i64 x.1, .int .i64 x.2]) ∧ ∀ x ∈ l, S.I64 x.1 ∧ S.I64 x.2) (hbad : S.I64 bad) (hK : ∀ w', Ext w w' → K true w') :
    callS Try.prog 4 #[.slice p0.a p0.len p0.cap, .int .i64 bad] [.one .bool] K w := by
  refine f4_ok ?_
  unfold f4
  obtain ⟨hr, hI⟩ := hrI
  have hpl : p0.len = l.length := by have := hr.len; simp at this; omega
  refine anchor10_s fun w1 e1 => ?_
  refine cond_i (fun h => by cases h) (fun _ => ?_)
  refine cond_i (fun _ => hK w1 e1) (fun hg => ?_)
  have hl60 : l.length ≤ 60 := by have := of_decide_eq_false hg; omega
  refine newOne_s (name := [97]) rfl ⟨by omega, by omega⟩ (by decide) (fun w' e h => absurd (by decide +kernel) h) fun gd L w2 e2 _ hgd hin d2 => ?_
  have own : ∀ {a b : World}, Ext w1 a → Fr (L.inD gd) a b → Ext w1 b := fun h1 h2 => Ext.own h1 h2 hin
  have own1 : ∀ {a b : World}, Ext w1 a → Fr (fun k => k = gd) a b → Ext w1 b := fun h1 h2 => Fr.own1 h1 h2 hgd
  refine join_i (fun b w' => b = false ∧ w2 = w') ?_ ?_
  rotate_left
  · intro J hJ
    refine cond_i (fun h => by cases h) (fun _ => ?_)
    exact ptrEq_i (hJ _ _ ⟨rfl, rfl⟩)
  rintro b w' ⟨rfl, rfl⟩
  refine cond_i (fun h => by cases h) (fun _ => ?_)
  refine dBad_s (name := ByteArray.mk #[97]) d2 hbad fun w3 f3 d3 => ?_
  rw [a_toList, S.badS_one] at d3
  have E3 := own e2 f3
  have hz : (List.replicate (256 : Int).toNat (0 : UInt8)).length = 256 := by rw [List.length_replicate]; rfl
  generalize List.replicate (256 : Int).toNat (0 : UInt8) = zs at d3 hz
  obtain ⟨bf, hd3⟩ : ∃ bf, DriveAt w3 gd L (S.one [97] zs bf (-1) [] false 0 0) := by
    split at d3
    · exact ⟨_, d3⟩
    · exact ⟨_, d3⟩
  refine loop_i (fun (x : Int × Int × Int) w' => ∃ (i : Nat) (c n : Int), i ≤ l.length ∧ x = (c, n, (i : Int)) ∧ Ext w1 w' ∧ DriveAt w' gd L (S.one [97] zs bf (-1) [] false c n) ∧ 0 ≤ c ∧ c ≤ i ∧ 0 ≤ n ∧ n ≤ 256 * (i : Int)) (fun x _ => (l.length - x.2.2).toNat) ⟨0, 0, 0, by omega, rfl, E3, hd3, by omega, by omega, by omega, by omega⟩ ?_
  rintro x w4 again ⟨i, c, n, hi, rfl, e4, d4, hc0, hc1, hn0, hn1⟩ hag
  dsimp only
  refine cond_i (fun hlt => ?_) (fun hge => hK w4 (e1.trans e4))
  have hi' : i < l.length := by have := of_decide_eq_true hlt; omega
  have hxI := hI (l.getD i (0, 0)) (by simp [hi'])
  have hget : (l.map fun x => [Value.int .i64 x.1, Value.int .i64 x.2])[i]? = some [.int .i64 (l.getD i (0, 0)).1, .int .i64 (l.getD i (0, 0)).2] := by simp [hi']
  generalize l.getD i (0, 0) = x at hxI hget
  obtain ⟨off, len⟩ := x
  simp only at hxI hget
  have hr4 := hr.ext (e1.trans e4)
  obtain ⟨a, ha⟩ := hr4.some (by omega)
  refine ix_i ha (by omega) (by omega) ?_
  rw [Int.toNat_natCast]
  refine ldA_i (cs := [.int .i64 off, .int .i64 len]) rfl (hr4.elem ha hget) ?_
  show semS Try.prog (Instr.alloc 39 true (.tuple #[])) (.one .adr) _ w4
  refine alloc_i fun g w5 e5 hg5 v5 => ?_
  refine stV_i (n := 2) (vs := [.int .i64 off, .int .i64 len]) 0 v5 rfl (Nat.le_refl 2) (fun v hv => ?_) fun w6 f6 v6 => ?_
  · simp only [List.mem_cons, List.not_mem_nil, or_false] at hv
    rcases hv with rfl | rfl <;> rfl
  have e46 := Fr.own1 e5 f6 hg5
  have E6 := e4.trans e46
  have v6 : Var w6 g [.int .i64 off, .int .i64 len] := v6
  refine elA_i (l := .int .i64) (x := off) v6 (by omega) (by omega) rfl ?_
  refine elA_i (l := .int .i64) (x := len) v6 (by omega) (by omega) rfl ?_
  refine dRead_s (name := ByteArray.mk #[97]) (d4.ext e46) hxI.1 hxI.2 fun u w7 f7 d7 o7 => ?_
  rw [a_toList] at d7 o7 ⊢
  have hgd4 := d4.lt (.inl rfl)
  have v7 : Var w7 g [.int .i64 off, .int .i64 len] := v6.fr f7 (by omega)
  have E7 := own1 E6 f7
  have hul := OwnB.len o7
  -- what the read told
  have key : ∃ (e c' n' : Int) (bs : List UInt8), ((S.one [97] zs bf (-1) [] false c n).read [97] off len) = (bs, e, S.one [97] zs bf (-1) [] false c' n') ∧ ((e = 0 ∧ c' = c + 1 ∧ n' = n + len ∧ (bs.length : Int) = len ∧ 0 ≤ len ∧ len ≤ 256) ∨ (e ≠ 0 ∧ c' = c ∧ n' = n ∧ bs = [])) := by
    by_cases hw : S.within off len zs.length = true
    · rw [S.read_one hw]
      obtain ⟨q1, q2, q3, q4, q5⟩ := S.within_iff.1 hw
      by_cases hb : (S.Area.mk [97] zs bf).badIn off len = true
      · rw [if_pos hb]; exact ⟨41, c, n, [], rfl, .inr ⟨by omega, rfl, rfl, rfl⟩⟩
      · rw [if_neg hb]
        refine ⟨0, _, _, _, rfl, .inl ⟨rfl, ?_, ?_, ?_, q2, by omega⟩⟩
        · unfold S.cap60; rw [if_neg (by omega)]
        · unfold S.cap60; rw [if_neg (by omega)]
        · rw [List.length_take, List.length_drop]; omega
    · rw [S.read_oneX (by simpa using hw)]; exact ⟨10, c, n, [], rfl, .inr ⟨by omega, rfl, rfl, rfl⟩⟩
  obtain ⟨e, c', n', bs, hrd, hcase⟩ := key
  rw [hrd] at d7 o7 hul ⊢
  simp only at d7 o7 hul ⊢
  have hnext : ∀ w8, Ext w1 w8 → DriveAt w8 gd L (S.one [97] zs bf (-1) [] false c' n') → again (c', n', IntKind.wrap .i64 ((i : Int) + 1)) w8 := fun w8 e8 d8 => by
    refine hag _ w8 ⟨i + 1, c', n', by omega, by rw [wrap_i64 (by omega) (by omega)]; rfl, e8, d8, ?_, ?_, ?_, ?_⟩ ?_
    · omega
    · omega
    · omega
    · omega
    · show ((l.length : Int) - IntKind.wrap .i64 ((i : Int) + 1)).toNat < ((l.length : Int) - (i : Int)).toNat
      rw [wrap_i64 (by omega) (by omega)]; omega
  refine join_i (fun (s : Int × Int) w' => s = (c', n') ∧ Ext w1 w' ∧ DriveAt w' gd L (S.one [97] zs bf (-1) [] false c' n') ∧ Var w' g [.int .i64 off, .int .i64 len]) ?_ ?_
  rotate_left
  · intro J hJ
    refine cond_i (fun h => ?_) (fun h => ?_)
    · have he : e = 0 := by simpa using h
      rcases hcase with ⟨_, h1, h2, h3, h4, h5⟩ | ⟨h1, _⟩
      · refine ⟨fun x => Ext w7 x, Ext.drew _, ?_⟩
        refine elAQ_i (l := .int .i64) (x := len) (fun x hx => v7.ext hx) (by omega) (by omega) rfl ?_
        rw [wrap_i64 (x := c + 1) (by omega) (by omega), wrap_i64 (x := n + len) (by omega) (by omega)]
        exact hJ _ _ ⟨by rw [h1, h2], E7.trans (Ext.drew _), d7.ext (Ext.drew _), v7.ext (Ext.drew _)⟩
      · exact absurd he h1
    · have he : e ≠ 0 := by simpa using h
      rcases hcase with ⟨h1, _⟩ | ⟨_, h1, h2, _⟩
      · exact absurd h1 he
      · exact hJ _ _ ⟨by rw [h1, h2], E7, d7, v7⟩
  rintro s w8 ⟨rfl, e8, d8, v8⟩
  refine join_i (fun b w' => b = false ∧ w8 = w') ?_ ?_
  rotate_left
  · intro J hJ
    refine cond_i (fun h => ?_) (fun h => hJ _ _ ⟨rfl, rfl⟩)
    have he : e = 0 := by simpa using h
    rcases hcase with ⟨_, h1, h2, h3, h4, h5⟩ | ⟨h1, _⟩
    · refine elA_i (l := .int .i64) (x := len) v8 (by omega) (by omega) rfl ?_
      refine hJ _ _ ⟨?_, rfl⟩
      have : ((u.len : Nat) : Int) = len := by omega
      simp [this]
    · exact absurd he h1
  rintro b w' ⟨rfl, rfl⟩
  refine cond_i (fun h => ?_) (fun _ => ?_)
  · rcases hcase with ⟨h1, _⟩ | ⟨_, _, _, h1⟩
    · rw [h1] at h; simp at h
    · rw [h1] at hul; simp at hul; rw [hul] at h; simp at h
  refine dReads_s d8 ?_
  have d9 := Ext.drew w8
  refine cond_i (fun h => by simp [S.one] at h) (fun _ => hnext _ (e8.trans d9) (d8.ext d9))

theorem DriveTwice_s {p0 p2 : Sl} {off sec : Int} {old xs : List UInt8} {K : Bool → World → Prop} {w : World} (hold : Bts w p0 old) (hoff : S.I64 off) (hxs : Bts w p2 xs) (hsec : S.I64 sec) (hK : ∀ w', Ext w w' → K true w') :
    callS Try.prog 5 #[.slice p0.a p0.len p0.cap, .int .i64 off, .slice p2.a p2.len p2.cap, .int .i64 sec] [.one .bool] K w := by
  refine f5_ok ?_
  unfold f5
  have hol := Bts.len hold
  have hxl := Bts.len hxs
  refine anchor10_s fun w1 e1 => ?_
  refine cond_i (fun h => by cases h) (fun _ => ?_)
  refine cond_i (fun _ => hK w1 e1) (fun hg => ?_)
  simp only [Bool.or_eq_false_iff, decide_eq_false_iff_not] at hg
  refine newOne_s (name := [120]) rfl ⟨by omega, by omega⟩ (by decide) (fun w' e h => absurd (by decide +kernel) h) fun gd L w2 e2 _ hgd hin d2 => ?_
  have own : ∀ {a b : World}, Ext w1 a → Fr (L.inD gd) a b → Ext w1 b := fun h1 h2 => Ext.own h1 h2 hin
  have own1 : ∀ {a b : World}, Ext w1 a → Fr (fun k => k = gd) a b → Ext w1 b := fun h1 h2 => Fr.own1 h1 h2 hgd
  have sep : ∀ {xs : List UInt8} {p : Sl}, Bts w1 p xs → xs ≠ [] → ∀ a, p.a = some a → ¬ L.inD gd a.block := fun h hne a ha hk => by
    have := rd_lt h (by simpa using hne) ha; have := hin _ hk; omega
  have hold1 := hold.ext e1
  have hxs1 := hxs.ext e1
  refine join_i (fun b w' => b = false ∧ w2 = w') ?_ ?_
  rotate_left
  · intro J hJ
    refine cond_i (fun h => by cases h) (fun _ => ?_)
    exact ptrEq_i (hJ _ _ ⟨rfl, rfl⟩)
  rintro b w' ⟨rfl, rfl⟩
  have hz : (List.replicate (256 : Int).toNat (0 : UInt8)).length = 256 := by rw [List.length_replicate]; rfl
  refine join_i (fun b w' => b = false ∧ Ext w1 w' ∧ DriveAt w' gd L (S.one [120] (S.over (List.replicate (256 : Int).toNat 0) old (0 : Int).toNat fun _ => true) (fun _ => false) (-1) [] false 0 0)) ?_ ?_
  rotate_left
  · intro J hJ
    refine cond_i (fun h => by cases h) (fun _ => ?_)
    refine dWrite_s (name := ByteArray.mk #[120]) d2 ⟨by omega, by omega⟩ (hold1.ext e2) (by omega) (fun hne a ha => sep hold1 hne a ha) fun w3 f3 d3 => ?_
    rw [x_toList] at d3 ⊢
    rw [S.write_one (by rw [hz, S.within_iff]; omega) (by decide)] at d3 ⊢
    exact hJ _ _ ⟨rfl, own e2 f3, d3⟩
  rintro b w3 ⟨rfl, e3, d3⟩
  refine cond_i (fun h => by cases h) (fun _ => ?_)
  have hb1 : (S.over (List.replicate (256 : Int).toNat 0) old (0 : Int).toNat fun _ => true).length = 256 := by rw [S.over_length]; exact hz
  generalize S.over (List.replicate (256 : Int).toNat 0) old (0 : Int).toNat (fun _ => true) = b1 at d3 hb1
  refine dRead_s (name := ByteArray.mk #[120]) d3 ⟨by omega, by omega⟩ ⟨by omega, by omega⟩ fun was w4 f4 d4 o4 => ?_
  rw [x_toList] at d4 o4
  rw [S.read_one (by rw [hb1]; decide), S.badIn_none] at d4 o4
  simp only [Bool.false_eq_true, if_false] at d4 o4
  rw [take_all (by omega)] at o4
  have E4 := own1 e3 f4
  have hwas : ∀ k, was.inB k → ¬ L.inD gd k := fun k hk h => by have := (o4.inB hk).1; have := d3.lt h; omega
  -- turned twice
  refine dTurn_s (name := ByteArray.mk #[120]) d4 hoff (hxs1.ext E4) (by omega) (fun hne a ha => sep hxs1 hne a ha) fun w5 f5 d5 => ?_
  rw [x_toList, S.turn_one] at d5 ⊢
  have E5 := own E4 f5
  obtain ⟨t, b2, ht, hb2l⟩ : ∃ (t : Bool) (b2 : List UInt8), (if S.within off xs.length b1.length then (true, S.one [120] (S.xorAt b1 xs off.toNat) (fun _ => false) (-1) [] false (S.cap60 (0 + 1)) (S.cap60 (0 + 256))) else (false, S.one [120] b1 (fun _ => false) (-1) [] false (S.cap60 (0 + 1)) (S.cap60 (0 + 256)))) = (t, S.one [120] b2 (fun _ => false) (-1) [] false (S.cap60 (0 + 1)) (S.cap60 (0 + 256))) ∧ b2.length = 256 ∧ t = S.within off xs.length b1.length ∧ (if t then S.xorAt b2 xs off.toNat = b1 else b2 = b1) := by
    cases hw : S.within off xs.length b1.length with
    | true => exact ⟨true, _, rfl, by rw [S.xorAt_length]; exact hb1, rfl, by simp [S.xorAt_xorAt]⟩
    | false => exact ⟨false, _, rfl, hb1, rfl, by simp⟩
  obtain ⟨hb2l, htw, hback⟩ := hb2l
  rw [ht] at d5 ⊢
  simp only at d5 ⊢
  refine dTurn_s (name := ByteArray.mk #[120]) d5 hoff (hxs1.ext E5) (by omega) (fun hne a ha => sep hxs1 hne a ha) fun w6 f6 d6 => ?_
  rw [x_toList, S.turn_one, hb2l, ← hb1, ← htw] at d6 ⊢
  have E6 := own E5 f6
  have hd6 : (if t then (true, S.one [120] (S.xorAt b2 xs off.toNat) (fun _ => false) (-1) [] false (S.cap60 (0 + 1)) (S.cap60 (0 + 256))) else (false, S.one [120] b2 (fun _ => false) (-1) [] false (S.cap60 (0 + 1)) (S.cap60 (0 + 256)))) = (t, S.one [120] b1 (fun _ => false) (-1) [] false (S.cap60 (0 + 1)) (S.cap60 (0 + 256))) := by
    cases t with
    | true => simp only [if_true] at hback ⊢; rw [hback]
    | false => simp only [Bool.false_eq_true, if_false] at hback ⊢; rw [hback]
  rw [hd6] at d6 ⊢
  simp only at d6 ⊢
  generalize S.cap60 (0 + 1) = c1 at d6
  generalize S.cap60 (0 + 256) = n1 at d6
  have o6 := (o4.fr f5 fun a ha h => hwas _ ⟨a, ha, rfl⟩ h).fr f6 fun a ha h => hwas _ ⟨a, ha, rfl⟩ h
  -- a sector, bad
  refine dBad_s (name := ByteArray.mk #[120]) d6 hsec fun w7 f7 d7 => ?_
  rw [x_toList, S.badS_one, hb1] at d7 ⊢
  have E7 := own E6 f7
  have o7 := o6.fr f7 fun a ha h => hwas _ ⟨a, ha, rfl⟩ h
  have hfin : ∀ (w8 : World) (u : Sl), Ext w1 w8 → OwnB w8 w3.heap.size was b1 → OwnB w8 w1.heap.size u b1 → ∀ {Q : Bool → World → Prop}, Q true w8 → semS Try.prog (convert 22 9 (.slice u.a u.len u.cap)) (.one .str) (fun x21 w => semS Try.prog (convert 22 9 (.slice was.a was.len was.cap)) (.one .str) (fun x22 w => Q (x21.toList == x22.toList) w) w) w8 := by
    intro w8 u e8 ow ou Q hQ
    refine b2s_i ou.rd (b2s_i ow.rd ?_)
    rw [show ((str b1).toList == (str b1).toList) = true by simp]; exact hQ
  by_cases hin4 : 0 ≤ sec ∧ sec < 4
  · rw [if_neg (show ¬ (sec < 0 ∨ sec ≥ (((256 : Nat) : Int)) / 64) by omega)] at d7 ⊢
    simp only at d7 ⊢
    refine dRead_s (name := ByteArray.mk #[120]) d7 ⟨by omega, by omega⟩ ⟨by omega, by omega⟩ fun u8 w8 f8 d8 o8 => ?_
    rw [x_toList] at d8 o8 ⊢
    have hbi : (S.Area.mk [120] b1 fun k => if k = sec then true else false).badIn 0 256 = true := by
      unfold S.Area.badIn
      rw [List.any_eq_true]
      exact ⟨sec.toNat, by rw [List.mem_range]; show sec.toNat < (S.nS 0 256).toNat; have : (S.nS 0 256).toNat = 4 := by decide
                           omega, by simp; omega⟩
    rw [S.read_one (by rw [hb1]; decide), hbi] at d8 o8 ⊢
    simp only [if_true] at d8 o8 ⊢
    have E8 := own1 E7 f8
    refine dBad_s (name := ByteArray.mk #[120]) d8 hsec fun w9 f9 d9 => ?_
    rw [x_toList, S.badS_one, hb1, if_neg (show ¬ (sec < 0 ∨ sec ≥ (((256 : Nat) : Int)) / 64) by omega)] at d9
    simp only at d9
    rw [show (fun k => if k = sec then false else if k = sec then true else false) = (fun _ : Int => false) by
      funext k
      by_cases hk : k = sec
      · rw [if_pos hk]
      · rw [if_neg hk, if_neg hk]] at d9
    have E9 := own E8 f9
    refine dRead_s (name := ByteArray.mk #[120]) d9 ⟨by omega, by omega⟩ ⟨by omega, by omega⟩ fun u10 w10 f10 d10 o10 => ?_
    rw [x_toList] at d10 o10 ⊢
    rw [S.read_one (by rw [hb1]; decide), S.badIn_none] at d10 o10 ⊢
    simp only [Bool.false_eq_true, if_false] at d10 o10 ⊢
    rw [take_all (by omega)] at o10
    have E10 := own1 E9 f10
    have o10' := ((o7.fr f8 fun a ha h => hwas _ ⟨a, ha, rfl⟩ (.inl h)).fr f9 fun a ha h => hwas _ ⟨a, ha, rfl⟩ h).fr f10 fun a ha h => hwas _ ⟨a, ha, rfl⟩ (.inl h)
    refine join_i (fun b w' => b = true ∧ w10 = w') (fun b w' ⟨hb, he⟩ => by subst hb; subst he; exact hK _ (e1.trans E10)) fun J hJ => ?_
    refine cond_i (fun _ => hfin w10 u10 E10 o10' (o10.base E9.size) (hJ _ _ ⟨rfl, rfl⟩)) (fun h => ?_)
    rw [show decide (sec ≥ 0) = true from decide_eq_true (by omega), show decide (sec < 4) = true from decide_eq_true (by omega)] at h
    simp at h
  · rw [if_pos (show (sec < 0 ∨ sec ≥ (((256 : Nat) : Int)) / 64) by omega)] at d7 ⊢
    simp only at d7 ⊢
    refine dRead_s (name := ByteArray.mk #[120]) d7 ⟨by omega, by omega⟩ ⟨by omega, by omega⟩ fun u8 w8 f8 d8 o8 => ?_
    rw [x_toList] at d8 o8 ⊢
    rw [S.read_one (by rw [hb1]; decide), S.badIn_none] at d8 o8 ⊢
    simp only [Bool.false_eq_true, if_false] at d8 o8 ⊢
    have E8 := own1 E7 f8
    refine dBad_s (name := ByteArray.mk #[120]) d8 hsec fun w9 f9 d9 => ?_
    rw [x_toList, S.badS_one, hb1, if_pos (show (sec < 0 ∨ sec ≥ (((256 : Nat) : Int)) / 64) by omega)] at d9
    simp only at d9
    have E9 := own E8 f9
    refine dRead_s (name := ByteArray.mk #[120]) d9 ⟨by omega, by omega⟩ ⟨by omega, by omega⟩ fun u10 w10 f10 d10 o10 => ?_
    rw [x_toList] at d10 o10 ⊢
    rw [S.read_one (by rw [hb1]; decide), S.badIn_none] at d10 o10 ⊢
    simp only [Bool.false_eq_true, if_false] at d10 o10 ⊢
    rw [take_all (by omega)] at o10
    have E10 := own1 E9 f10
    have o10' := ((o7.fr f8 fun a ha h => hwas _ ⟨a, ha, rfl⟩ (.inl h)).fr f9 fun a ha h => hwas _ ⟨a, ha, rfl⟩ h).fr f10 fun a ha h => hwas _ ⟨a, ha, rfl⟩ (.inl h)
    refine join_i (fun b w' => b = true ∧ w10 = w') (fun b w' ⟨hb, he⟩ => by subst hb; subst he; exact hK _ (e1.trans E10)) fun J hJ => ?_
    refine cond_i (fun _ => hfin w10 u10 E10 o10' (o10.base E9.size) (hJ _ _ ⟨rfl, rfl⟩)) (fun h => ?_)
    have hf : (decide (sec ≥ 0) && decide (sec < 4)) = false := by
      rw [Bool.eq_false_iff]; simp only [ne_eq, Bool.and_eq_true, decide_eq_true_eq]; omega
    rw [hf] at h
    simp at h
end Go.Proofs.Ytjphpadgbhegaaa
