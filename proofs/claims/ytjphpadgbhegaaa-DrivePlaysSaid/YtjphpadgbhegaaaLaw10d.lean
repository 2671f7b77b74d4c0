/- Layer 10 (drive): the law DriveApart. -/
import Derived.Test.YtjphpadgbhegaaaLaw10c
set_option linter.unusedSimpArgs false
set_option linter.unusedVariables false
namespace Go.S
open Go Go.Eng
namespace Drv
theorem ar_name {D : Drv} {name : List UInt8} {i : Nat} (h : D.at? name = some i) : (D.ar i).name = name := by
  unfold at? at h
  rw [List.findIdx?_eq_some_iff_getElem] at h
  obtain ⟨h1, h2, _⟩ := h
  unfold ar
  simp [h1] at h2 ⊢
  exact h2
theorem ar_set_ne {D : Drv} {i j : Nat} (h : i ≠ j) (a : Area) : (D.set i a).ar j = D.ar j := by simp [set, ar, h]
end Drv
/-- The first area is A0, and stays. -/
structure Keeps (D : Drv) (A0 : Area) : Prop where
  at0 : D.at? A0.name = some 0
  ar0 : D.ar 0 = A0
namespace Keeps
variable {D : Drv} {A0 : Area} {name : List UInt8}
theorem of_as {D' : Drv} (h : Keeps D A0) (ha : D'.as = D.as) : Keeps D' A0 := ⟨by rw [Drv.at?_congr ha]; exact h.at0, by unfold Drv.ar; rw [ha]; exact h.ar0⟩
theorem set (h : Keeps D A0) {i : Nat} (hi : D.at? name = some i) (hn : name ≠ A0.name) {A : Area} (hA : A.name = (D.ar i).name) : Keeps (D.set i A) A0 := by
  have h0 : i ≠ 0 := fun e => by
    subst e
    have := Drv.ar_name hi
    rw [h.ar0] at this; exact hn this.symm
  exact ⟨by rw [Drv.at?_set hA]; exact h.at0, by rw [Drv.ar_set_ne h0]; exact h.ar0⟩
theorem write (h : Keeps D A0) (hn : name ≠ A0.name) (off : Int) (bs : List UInt8) : Keeps (D.write name off bs).2 A0 := by
  unfold Drv.write
  by_cases he : D.err name off bs.length = 0
  · rw [if_neg (by simp [he])]
    obtain ⟨_, i, hi, _⟩ := Drv.err_ok he
    rw [hi]
    simp only [Option.getD_some]
    split
    · exact (h.set hi hn (A := (D.ar i).setB (over (D.ar i).b bs off.toNat fun _ => true)) rfl).of_as rfl
    · exact (h.set hi hn (A := (D.ar i).setB (over (D.ar i).b bs off.toNat fun k => D.keep.getD k false)) rfl).of_as rfl
  · rw [if_pos he]; exact h
theorem turn (h : Keeps D A0) (hn : name ≠ A0.name) (off : Int) (xs : List UInt8) : Keeps (D.turn name off xs).2 A0 := by
  unfold Drv.turn
  cases hi : D.at? name with
  | none => exact h
  | some i =>
    dsimp only
    split
    · exact h.set hi hn rfl
    · exact h
theorem badS (h : Keeps D A0) (hn : name ≠ A0.name) (s : Int) (on : Bool) : Keeps (D.badS name s on).2 A0 := by
  unfold Drv.badS
  cases hi : D.at? name with
  | none => exact h
  | some i =>
    dsimp only
    split
    · exact h
    · exact h.set hi hn rfl
theorem arm (h : Keeps D A0) (n : Int) (ks : List Bool) : Keeps (D.arm n ks) A0 := h.of_as rfl
theorem boot (h : Keeps D A0) : Keeps D.boot A0 := h.of_as rfl
theorem read (h : Keeps D A0) (hd : D.down = false) {off len : Int} (hw : within off len A0.b.length = true) (hb : A0.badIn off len = false) : D.read A0.name off len = ((A0.b.drop off.toNat).take len.toNat, 0, { D with count := cap60 (D.count + 1), bytes := cap60 (D.bytes + len) }) := by
  have he : D.err A0.name off len = 0 := by
    unfold Drv.err
    rw [hd, h.at0]
    dsimp only
    rw [h.ar0, hw]; rfl
  unfold Drv.read
  rw [if_neg (by simp [he]), h.at0]
  simp only [Option.getD_some, h.ar0, hb, Bool.false_eq_true, if_false]
theorem readD (hd : D.down = true) {off len : Int} : D.read name off len = ([], 42, D) := by
  have he : D.err name off len = 42 := by unfold Drv.err; rw [hd]; rfl
  unfold Drv.read
  rw [he]; rfl
end Keeps
end Go.S
namespace Go.Proofs.Ytjphpadgbhegaaa
open Go Go.Eng
/-- A step of a play. -/
structure DOp where
  kind : Int
  off : Int
  n : Int
  name : List UInt8
  dat : Sl × List UInt8
  on : Bool
  keep : Sl × List Bool
def DOp.cells (o : DOp) : List Value := [.int .i64 o.kind, .int .i64 o.off, .int .i64 o.n, .string (str o.name), slV o.dat.1, .bool o.on, slV o.keep.1]
structure DOp.Ok (w : World) (o : DOp) : Prop where
  kind : S.I64 o.kind
  off : S.I64 o.off
  n : S.I64 o.n
  name : o.name.length ≤ 9223372036854775807
  dat : Bts w o.dat.1 o.dat.2
  keep : Rd w o.keep.1 1 (o.keep.2.map Value.bool)
structure OpsIn (w : World) (s : Sl) (os : List DOp) : Prop where
  rds : Rds w s 7 (os.map DOp.cells)
  ok : ∀ o ∈ os, o.Ok w
theorem DOp.Ok.ext {w w' : World} {o : DOp} (h : o.Ok w) (e : Ext w w') : o.Ok w' := ⟨h.kind, h.off, h.n, h.name, h.dat.ext e, h.keep.ext e⟩
theorem ops10_of {W : World} {s : Sl} {css : List (List Value)} (hr : Rds W s 7 css) (hk : ∀ c ∈ css, KindsR W [.int .i64, .int .i64, .int .i64, .str, .bts, .bool, .bls] c) : ∃ os : List DOp, OpsIn W s os := by
  obtain ⟨os, rfl, ho⟩ := each_of DOp.cells (fun o => o.Ok W) (fun c hc => by
    obtain ⟨v1, c, rfl, h1, hc⟩ := kinds_cons hc
    obtain ⟨v2, c, rfl, h2, hc⟩ := kinds_cons hc
    obtain ⟨v3, c, rfl, h3, hc⟩ := kinds_cons hc
    obtain ⟨v4, c, rfl, h4, hc⟩ := kinds_cons hc
    obtain ⟨v5, c, rfl, h5, hc⟩ := kinds_cons hc
    obtain ⟨v6, c, rfl, h6, hc⟩ := kinds_cons hc
    obtain ⟨v7, c, rfl, h7, hc⟩ := kinds_cons hc
    obtain rfl := kinds_nil hc
    obtain ⟨a1, rfl, q1⟩ := ok_int h1
    obtain ⟨a2, rfl, q2⟩ := ok_int h2
    obtain ⟨a3, rfl, q3⟩ := ok_int h3
    obtain ⟨a4, rfl, q4⟩ := ok_str h4
    obtain ⟨a5, rfl, q5⟩ := ok_bts h5
    obtain ⟨a6, rfl⟩ := ok_bool h6
    obtain ⟨a7, rfl, q7⟩ := ok_bls h7
    exact ⟨⟨a1, a2, a3, a4, a5, a6, a7⟩, rfl, ⟨wf_i64 q1, wf_i64 q2, wf_i64 q3, q4, q5, q7⟩⟩) css hk
  exact ⟨os, hr, ho⟩
theorem partsD_of {W : World} {s : Sl} {css : List (List Value)} (hr : Rds W s 2 css) (hk : ∀ c ∈ css, KindsR W [.str, .int .i64] c) : ∃ ps : S.PartL, PartsIn W s ps := by
  obtain ⟨ps, rfl, ho⟩ := each_of pc (fun p => S.I64 p.2 ∧ p.1.length ≤ 9223372036854775807) (fun c hc => by
    obtain ⟨v1, c, rfl, h1, hc⟩ := kinds_cons hc
    obtain ⟨v2, c, rfl, h2, hc⟩ := kinds_cons hc
    obtain rfl := kinds_nil hc
    obtain ⟨a1, rfl, q1⟩ := ok_str h1
    obtain ⟨a2, rfl, q2⟩ := ok_int h2
    exact ⟨(a1, a2), rfl, wf_i64 q2, q1⟩) css hk
  exact ⟨ps, hr, ho⟩
theorem op_one (o : DOp) : ∀ v ∈ o.cells, v.oneCell' = true := fun v hv => by
  simp only [DOp.cells, List.mem_cons, List.not_mem_nil, or_false] at hv
  rcases hv with rfl | rfl | rfl | rfl | rfl | rfl | rfl <;> rfl
/-- 'o := ops[i]', a variable of its own. -/
theorem op_at {w : World} {s : Sl} {os : List DOp} {i : Nat} (h : OpsIn w s os) (hi : i < os.length) {K : Addr → World → Prop}
    (hK : ∀ g w', Ext w w' → w.heap.size ≤ g → Var w' g (os[i].cells) → K (at_ g 0) w') :
    semS Try.prog (Instr.indexAt 45 (.slice s.a s.len s.cap) (.int .i64 (i : Int))) (.one .adr) (fun x13 w =>
      semS Try.prog (Instr.loadAt 47 (.pointer (some x13))) (.agg [(.int .i64), (.int .i64), (.int .i64), .str, .slc, .bool, .slc]) (fun x14 x15 x16 x17 x18 x19 x20 w =>
      semS Try.prog (Instr.alloc 47 true (.tuple #[])) (.one .adr) (fun x21 w =>
      semU Try.prog (Instr.storeAt 47 (.pointer (some x21)) (.agg #[(.int .i64 x14), (.int .i64 x15), (.int .i64 x16), (.string x17), (.slice x18.a x18.len x18.cap), (.bool x19), (.slice x20.a x20.len x20.cap)])) (fun w => K x21 w) w) w) w) w := by
  have hsl : s.len = os.length := by have := h.rds.len; simp at this; omega
  obtain ⟨a, ha⟩ := h.rds.some (by omega)
  have hp : (os.map DOp.cells)[i]? = some os[i].cells := by simp [hi]
  refine ix_i ha (by omega) (by omega) ?_
  rw [Int.toNat_natCast]
  refine ldA_i (cs := os[i].cells) rfl (h.rds.elem ha hp) ?_
  show semS Try.prog (Instr.alloc 47 true (.tuple #[])) (.one .adr) _ w
  refine alloc_i fun g w1 e1 hg v1 => ?_
  refine stV_i (n := 7) (vs := os[i].cells) 0 v1 rfl (Nat.le_refl 7) (op_one _) fun w2 f2 v2 => ?_
  exact hK g w2 (Fr.own1 e1 f2 hg) hg v2
theorem keep_toList : (ByteArray.mk #[107, 101, 101, 112]).toList = [107, 101, 101, 112] := str_toList [107, 101, 101, 112]
theorem DriveApart_s {p0 p1 : Sl} {old : List UInt8} {os : List DOp} {K : Bool → World → Prop} {w : World} (hold : Bts w p0 old) (hos : OpsIn w p1 os) (hK : ∀ w', Ext w w' → K true w') :
    callS Try.prog 6 #[.slice p0.a p0.len p0.cap, .slice p1.a p1.len p1.cap] [.one .bool] K w := by
  refine f6_ok ?_
  unfold f6
  have hol := Bts.len hold
  have hsl : p1.len = os.length := by have := hos.rds.len; simp at this; omega
  refine anchor10_s fun w1 e1 => ?_
  refine cond_i (fun h => by cases h) (fun _ => ?_)
  refine cond_i (fun _ => hK w1 e1) (fun hg => ?_)
  simp only [Bool.or_eq_false_iff, decide_eq_false_iff_not] at hg
  have hok1 : ∀ o ∈ os, o.Ok w1 := fun o ho => (hos.ok o ho).ext e1
  have hold1 := hold.ext e1
  refine buildSlice_i ((pc ([107, 101, 101, 112], 128) ++ pc ([97], 192) ++ pc ([98], 64)).toArray) (by kernel_rfl) rfl (by omega) fun v w2 e2 o2 hvl => ?_
  have hp : PartsIn w2 v [([107, 101, 101, 112], 128), ([97], 192), ([98], 64)] := by
    refine ⟨⟨by simpa [pc] using o2.rd, by simp [hvl], fun c hc => ?_⟩, fun p hp => ?_⟩
    · simp at hc; rcases hc with rfl | rfl | rfl <;> rfl
    · simp at hp; rcases hp with rfl | rfl | rfl <;> exact ⟨by constructor <;> decide, by decide⟩
  refine drvNew_s hp (fun w' e h => absurd (by decide +kernel) h) fun gd L w3 e3 _ hgd hin d3 => ?_
  have e23 := e2.trans e3
  have hs2 := e2.size
  have hgd1 : w1.heap.size ≤ gd := by omega
  have hin1 : ∀ k, L.inD gd k → w1.heap.size ≤ k := fun k hk => by have := hin k hk; omega
  have own : ∀ {a b : World} {L' : Lay}, (∀ k, L'.inD gd k → w1.heap.size ≤ k) → Ext w1 a → Fr (L'.inD gd) a b → Ext w1 b := fun hL h1 h2 => Ext.own h1 h2 hL
  have own1 : ∀ {a b : World}, Ext w1 a → Fr (fun k => k = gd) a b → Ext w1 b := fun h1 h2 => Fr.own1 h1 h2 hgd1
  have sep : ∀ {xs : List UInt8} {p : Sl}, Bts w1 p xs → xs ≠ [] → ∀ a, p.a = some a → ∀ {L' : Lay}, (∀ k, L'.inD gd k → w1.heap.size ≤ k) → ¬ L'.inD gd a.block := fun h hne a ha L' hL hk => by
    have := rd_lt h (by simpa using hne) ha; have := hL _ hk; omega
  refine join_i (fun b w' => b = false ∧ w3 = w') ?_ ?_
  rotate_left
  · intro J hJ
    refine cond_i (fun h => by cases h) (fun _ => ?_)
    exact ptrEq_i (hJ _ _ ⟨rfl, rfl⟩)
  rintro b w' ⟨rfl, rfl⟩
  have hkp : S.Keeps (S.Drv.fresh [([107, 101, 101, 112], 128), ([97], 192), ([98], 64)]) ⟨[107, 101, 101, 112], List.replicate 128 0, fun _ => false⟩ := ⟨by rw [S.at?_fresh]; decide, rfl⟩
  have hz : (List.replicate 128 (0 : UInt8)).length = 128 := by rw [List.length_replicate]
  refine join_i (fun b w' => b = false ∧ Ext w1 w' ∧ ∃ D b1, DriveAt w' gd L D ∧ S.Keeps D ⟨[107, 101, 101, 112], b1, fun _ => false⟩ ∧ b1.length = 128 ∧ D.down = false) ?_ ?_
  rotate_left
  · intro J hJ
    refine cond_i (fun h => by cases h) (fun _ => ?_)
    refine dWrite_s (name := ByteArray.mk #[107, 101, 101, 112]) d3 ⟨by omega, by omega⟩ (hold1.ext e23) (by omega) (fun hne a ha => sep hold1 hne a ha hin1) fun w4 f4 d4 => ?_
    rw [keep_toList] at d4 ⊢
    have hw : (S.Drv.fresh [([107, 101, 101, 112], 128), ([97], 192), ([98], 64)]).write [107, 101, 101, 112] 0 old = (0, { (S.Drv.fresh [([107, 101, 101, 112], 128), ([97], 192), ([98], 64)]).set 0 ⟨[107, 101, 101, 112], S.over (List.replicate 128 0) old 0 fun _ => true, fun _ => false⟩ with left := -1 }) := by
      unfold S.Drv.write
      have he : (S.Drv.fresh [([107, 101, 101, 112], 128), ([97], 192), ([98], 64)]).err [107, 101, 101, 112] 0 old.length = 0 := by
        unfold S.Drv.err
        rw [hkp.at0]
        dsimp only
        rw [hkp.ar0]
        have : S.within 0 (old.length : Int) ((List.replicate 128 (0 : UInt8)).length : Int) = true := by rw [hz, S.within_iff]; omega
        rw [this]; rfl
      rw [if_neg (by simp [he]), hkp.at0]
      simp only [Option.getD_some, hkp.ar0]
      rfl
    rw [hw] at d4 ⊢
    simp only at d4 ⊢
    refine hJ _ _ ⟨rfl, own hin1 e23 f4, _, _, d4, ⟨?_, rfl⟩, by rw [S.over_length]; exact hz, rfl⟩
    exact (S.Drv.at?_congr (D := (S.Drv.fresh [([107, 101, 101, 112], 128), ([97], 192), ([98], 64)]).set 0 ⟨[107, 101, 101, 112], S.over (List.replicate 128 0) old 0 fun _ => true, fun _ => false⟩) rfl _).trans ((S.Drv.at?_set (i := 0) (by rw [hkp.ar0]) _).trans hkp.at0)
  rintro b w4 ⟨rfl, e4, D, b1, d4, hk4, hb1, hdn4⟩
  refine cond_i (fun h => by cases h) (fun _ => ?_)
  have hb0 : (S.Area.mk [107, 101, 101, 112] b1 fun _ => false).badIn 0 128 = false := S.badIn_none
  have hwi : S.within 0 128 (S.Area.mk [107, 101, 101, 112] b1 fun _ => false).b.length = true := by show S.within 0 128 (b1.length : Int) = true; rw [hb1]; decide
  refine dRead_s (name := ByteArray.mk #[107, 101, 101, 112]) d4 ⟨by omega, by omega⟩ ⟨by omega, by omega⟩ fun was w5 f5 d5 o5 => ?_
  rw [keep_toList] at d5 o5
  rw [show D.read [107, 101, 101, 112] 0 128 = _ from hk4.read hdn4 hwi hb0] at d5 o5
  simp only at d5 o5
  rw [take_all (by omega)] at o5
  have hk5 := hk4.of_as (D' := { D with count := S.cap60 (D.count + 1), bytes := S.cap60 (D.bytes + 128) }) rfl
  generalize ({ D with count := S.cap60 (D.count + 1), bytes := S.cap60 (D.bytes + 128) } : S.Drv) = D5 at d5 hk5
  have E5 := own1 e4 f5
  have hwas : ∀ k, was.inB k → ¬ L.inD gd k := fun k hk h => by have := (o5.inB hk).1; have := d4.lt h; omega
  refine loop_i (fun (x : Int) w' => ∃ (i : Nat) (D : S.Drv) (L' : Lay), i ≤ os.length ∧ x = i ∧ Ext w1 w' ∧ DriveAt w' gd L' D ∧ (∀ k, L'.inD gd k → w1.heap.size ≤ k) ∧ S.Keeps D ⟨[107, 101, 101, 112], b1, fun _ => false⟩ ∧ OwnB w' w4.heap.size was b1 ∧ (∀ k, was.inB k → ¬ L'.inD gd k)) (fun x _ => os.length - x.toNat) ⟨0, D5, L, by omega, rfl, E5, d5, hin1, hk5, o5, hwas⟩ ?_
  rintro x w6 again ⟨i, D6, L6, hi, rfl, e6, d6, hin6, hk6, o6, hw6⟩ hag
  refine cond_i (fun hlt => ?_) (fun hge => hK w6 (e1.trans e6))
  have hi' : i < os.length := by have := of_decide_eq_true hlt; omega
  have ho1 := hok1 os[i] (List.getElem_mem _)
  have hosi : OpsIn w6 p1 os := ⟨hos.rds.ext (e1.trans e6), fun o ho => (hos.ok o ho).ext (e1.trans e6)⟩
  refine op_at hosi hi' fun g w7 e7 hg7 v7 => ?_
  generalize os[i] = o at ho1 v7
  have E7 := e6.trans e7
  have d7 := d6.ext e7
  have o7 := o6.ext e7
  have hgn : ∀ {L' : Lay}, (∀ k, L'.inD gd k → L6.inD gd k ∨ w7.heap.size ≤ k) → ¬ L'.inD gd g := fun hL h => by
    rcases hL g h with h1 | h1
    · have := d6.lt h1; omega
    · have := v7.lt; omega
  have hnext : ∀ w8 D8 L8, Ext w1 w8 → DriveAt w8 gd L8 D8 → (∀ k, L8.inD gd k → w1.heap.size ≤ k) → S.Keeps D8 ⟨[107, 101, 101, 112], b1, fun _ => false⟩ → OwnB w8 w4.heap.size was b1 → (∀ k, was.inB k → ¬ L8.inD gd k) → again (IntKind.wrap .i64 ((i : Int) + 1)) w8 := fun w8 D8 L8 h1 h2 h3 h4 h5 h6 =>
    hag _ w8 ⟨i + 1, D8, L8, by omega, by rw [wrap_i64 (by omega) (by omega)]; omega, h1, h2, h3, h4, h5, h6⟩ (by rw [wrap_i64 (by omega) (by omega)]; omega)
  refine ld1_i (l := .str) (o := 3) (str o.name) v7 rfl ?_
  rw [str_toList, keep_toList]
  refine join_i (fun b w' => w7 = w' ∧ (b = false → o.name ≠ [107, 101, 101, 112] ∧ o.dat.2.length ≤ 300)) ?_ ?_
  rotate_left
  · intro J hJ
    refine cond_i (fun h => hJ _ _ ⟨rfl, fun h => by cases h⟩) (fun h => ?_)
    refine ld1_i (l := .slc) (o := 4) o.dat.1 v7 rfl ?_
    have := Bts.len ho1.dat
    exact hJ _ _ ⟨rfl, fun hb => ⟨by simpa using h, by have := of_decide_eq_false hb; omega⟩⟩
  rintro b w' ⟨rfl, hb1c⟩
  refine join_i (fun b w' => w7 = w' ∧ (b = false → o.name ≠ [107, 101, 101, 112] ∧ o.dat.2.length ≤ 300 ∧ o.keep.2.length ≤ 30)) ?_ ?_
  rotate_left
  · intro J hJ
    refine cond_i (fun h => hJ _ _ ⟨rfl, fun h => by cases h⟩) (fun h => ?_)
    refine ld1_i (l := .slc) (o := 6) o.keep.1 v7 rfl ?_
    have : o.keep.1.len = o.keep.2.length := by have := ho1.keep.len; simp at this; omega
    exact hJ _ _ ⟨rfl, fun hb => ⟨(hb1c h).1, (hb1c h).2, by have := of_decide_eq_false hb; omega⟩⟩
  rintro b w' ⟨rfl, hb2c⟩
  refine cond_i (fun _ => hnext _ D6 L6 E7 d7 hin6 hk6 o7 hw6) (fun hb => ?_)
  obtain ⟨hname, hdat, hkeep⟩ := hb2c hb
  refine join_i (fun _ w' => ∃ D8 L8, Ext w1 w' ∧ DriveAt w' gd L8 D8 ∧ (∀ k, L8.inD gd k → w1.heap.size ≤ k) ∧ S.Keeps D8 ⟨[107, 101, 101, 112], b1, fun _ => false⟩ ∧ OwnB w' w4.heap.size was b1 ∧ (∀ k, was.inB k → ¬ L8.inD gd k)) ?_ ?_
  · rintro _ w8 ⟨D8, L8, e8, d8, hin8, hk8, o8, hw8⟩
    have hd8 : ∀ {b c : World}, Ext w1 b → Fr (fun k => k = gd) b c → Ext w1 c := own1
    refine dRead_s (name := ByteArray.mk #[107, 101, 101, 112]) d8 ⟨by omega, by omega⟩ ⟨by omega, by omega⟩ fun now w9 f9 d9 o9 => ?_
    rw [keep_toList] at d9 o9 ⊢
    have E9 := own1 e8 f9
    have ow9 := o8.fr f9 fun a ha h => hw8 _ ⟨a, ha, rfl⟩ (.inl h)
    cases hdn : D8.down with
    | true =>
      rw [S.Keeps.readD hdn] at d9 o9 ⊢
      simp only at d9 o9 ⊢
      refine dDown_s d9 ?_
      rw [hdn]
      refine join_i (fun b w' => b = false ∧ w9 = w') ?_ ?_
      · rintro b w' ⟨rfl, rfl⟩
        exact cond_i (fun h => by cases h) (fun _ => hnext _ D8 L8 E9 d9 hin8 hk8 ow9 hw8)
      · intro J hJ
        refine cond_i (fun h => by cases h) (fun _ => ?_)
        refine dDown_s d9 ?_
        rw [hdn]
        refine join_i (fun b w' => b = false ∧ w9 = w') (fun b w' ⟨hb, he⟩ => by subst hb; subst he; exact hJ _ _ ⟨rfl, rfl⟩) fun J2 hJ2 => ?_
        exact cond_i (fun h => by cases h) (fun _ => hJ2 _ _ ⟨rfl, rfl⟩)
    | false =>
      rw [show D8.read [107, 101, 101, 112] 0 128 = _ from hk8.read hdn hwi hb0] at d9 o9 ⊢
      simp only at d9 o9 ⊢
      rw [take_all (by omega)] at o9
      have hk9 := hk8.of_as (D' := { D8 with count := S.cap60 (D8.count + 1), bytes := S.cap60 (D8.bytes + 128) }) rfl
      have hdn9 : ({ D8 with count := S.cap60 (D8.count + 1), bytes := S.cap60 (D8.bytes + 128) } : S.Drv).down = false := hdn
      generalize ({ D8 with count := S.cap60 (D8.count + 1), bytes := S.cap60 (D8.bytes + 128) } : S.Drv) = D9 at d9 hk9 hdn9
      refine dDown_s d9 ?_
      rw [hdn9]
      refine join_i (fun b w' => b = false ∧ w9 = w') ?_ ?_
      · rintro b w' ⟨rfl, rfl⟩
        exact cond_i (fun h => by cases h) (fun _ => hnext _ D9 L8 E9 d9 hin8 hk9 ow9 hw8)
      · intro J hJ
        refine cond_i (fun h => by cases h) (fun _ => ?_)
        refine dDown_s d9 ?_
        rw [hdn9]
        refine join_i (fun b w' => b = false ∧ w9 = w') (fun b w' ⟨hb, he⟩ => by subst hb; subst he; exact hJ _ _ ⟨rfl, rfl⟩) fun J2 hJ2 => ?_
        refine cond_i (fun _ => ?_) (fun h => by cases h)
        refine join_i (fun b w' => b = false ∧ w9 = w') (fun b w' ⟨hb, he⟩ => by subst hb; subst he; exact hJ2 _ _ ⟨rfl, rfl⟩) fun J3 hJ3 => ?_
        refine cond_i (fun h => by cases h) (fun _ => ?_)
        refine b2s_i o9.rd (b2s_i ow9.rd ?_)
        rw [show ((str b1).toList == (str b1).toList) = true by simp]
        exact hJ3 _ _ ⟨rfl, rfl⟩
  · intro J hJ
    refine ld1_i (l := .int .i64) (o := 0) o.kind v7 rfl ?_
    have fin : ∀ (w8 : World) (D8 : S.Drv), Fr (L6.inD gd) w7 w8 → DriveAt w8 gd L6 D8 → S.Keeps D8 ⟨[107, 101, 101, 112], b1, fun _ => false⟩ → J () w8 := fun w8 D8 f d k =>
      hJ () w8 ⟨D8, L6, own hin6 E7 f, d, hin6, k, o7.fr f fun a ha h => hw6 _ ⟨a, ha, rfl⟩ h, hw6⟩
    have hdat7 : Bts w7 o.dat.1 o.dat.2 := ho1.dat.ext E7
    have hnm : (str o.name).toList = o.name := str_toList _
    refine cond_i (fun _ => ?_) (fun _ => ?_)
    · refine ld1_i (l := .str) (o := 3) (str o.name) v7 rfl ?_
      refine ld1_i (l := .int .i64) (o := 1) o.off v7 rfl ?_
      refine ld1_i (l := .slc) (o := 4) o.dat.1 v7 rfl ?_
      refine dWrite_s d7 ho1.off hdat7 (by omega) (fun hne a ha => sep ho1.dat hne a ha hin6) fun w8 f8 d8 => ?_
      rw [hnm] at d8
      exact fin w8 _ f8 d8 (hk6.write hname _ _)
    refine cond_i (fun _ => ?_) (fun _ => ?_)
    · refine ld1_i (l := .str) (o := 3) (str o.name) v7 rfl ?_
      refine ld1_i (l := .int .i64) (o := 1) o.off v7 rfl ?_
      refine ld1_i (l := .slc) (o := 4) o.dat.1 v7 rfl ?_
      refine dTurn_s d7 ho1.off hdat7 (by omega) (fun hne a ha => sep ho1.dat hne a ha hin6) fun w8 f8 d8 => ?_
      rw [hnm] at d8
      exact fin w8 _ f8 d8 (hk6.turn hname _ _)
    refine cond_i (fun _ => ?_) (fun _ => ?_)
    · refine ld1_i (l := .str) (o := 3) (str o.name) v7 rfl ?_
      refine ld1_i (l := .int .i64) (o := 1) o.off v7 rfl ?_
      refine ld1_i (l := .bool) (o := 5) o.on v7 rfl ?_
      refine dBad_s d7 ho1.off fun w8 f8 d8 => ?_
      rw [hnm] at d8
      exact fin w8 _ f8 d8 (hk6.badS hname _ _)
    refine cond_i (fun _ => ?_) (fun _ => ?_)
    · refine ld1_i (l := .int .i64) (o := 2) o.n v7 rfl ?_
      refine ld1_i (l := .slc) (o := 6) o.keep.1 v7 rfl ?_
      refine dArm_s d7 ho1.n (ho1.keep.ext E7) (by omega) fun w8 L8 f8 d8 hin8 _ => ?_
      refine hJ () w8 ⟨_, L8, own1 E7 f8, d8, fun k hk => ?_, hk6.arm _ _, o7.fr f8 fun a ha h => hw6 _ ⟨a, ha, rfl⟩ (.inl h), fun k hk h => ?_⟩
      · rcases hin8 k hk with h | h
        · exact hin6 k h
        · have := E7.size; omega
      · rcases hin8 k h with h1 | h1
        · exact hw6 k hk h1
        · have := (o7.inB hk).2; omega
    refine cond_i (fun _ => ?_) (fun _ => ?_)
    · refine dBoot_s d7 fun w8 f8 d8 => ?_
      exact fin w8 _ (f8.mono fun k _ hk => .inl hk) d8 hk6.boot
    · exact fin w7 _ (Fr.refl _ _) d7 hk6
end Go.Proofs.Ytjphpadgbhegaaa
