/- Layer 12 (descr): one descriptor is read, by the program. -/
import Derived.Test.YtgjbajjggmpmmaaDes12g
set_option linter.unusedSimpArgs false
set_option linter.unusedVariables false
namespace Go.S
open Go Go.Eng
theorem get_num {b : List UInt8} {o z : Nat} (h : o + z ≤ b.length) (hz : 1 ≤ z ∧ z ≤ 8) : get b (o : Int) (z : Int) = if num b o z ≥ 9223372036854775808 then (0, 11) else ((num b o z : Int), 0) := by
  unfold get num
  rw [if_neg (by omega), if_neg (by rw [within_iff.2 (by omega)]; simp), Int.toNat_natCast, Int.toNat_natCast]
theorem num_lt (b : List UInt8) (o n : Nat) : num b o n < 256 ^ n := by
  have h := beN_lt ((b.drop o).take n)
  have h2 : ((b.drop o).take n).length ≤ n := by rw [List.length_take]; omega
  exact Nat.lt_of_lt_of_le h (Nat.pow_le_pow_right (by decide) h2)
theorem num4 (b : List UInt8) (o : Nat) : num b o 4 < 4294967296 := Nat.lt_of_lt_of_le (num_lt b o 4) (by decide)
theorem rd_size {kind : Int} {b : List UInt8} (h : rd kind b = true) : num b 4 8 ≤ 1099511627776 ∧ num b 16 8 ≤ 1099511627776 := by
  unfold rd at h
  simp only [Bool.and_eq_true, decide_eq_true_eq] at h
  have f := Des.fits h.2.1
  have h1 : ((num b 4 8 : Nat) : Int) ≤ 1099511627776 := f.size.2
  have h2 : ((num b 16 8 : Nat) : Int) ≤ 1099511627776 := f.off.2
  omega
theorem tf_mono (b : List UInt8) (i : Nat) : tf b i ≤ tf b (i + 1) := by show tf b i ≤ tf b i + tn b i; omega
theorem tf_5 (b : List UInt8) {i : Nat} (h : i ≤ 4) : tf b (i + 1) ≤ tf b 5 := by
  have h1 : tf b 1 ≤ tf b 2 := tf_mono b 1
  have h2 : tf b 2 ≤ tf b 3 := tf_mono b 2
  have h3 : tf b 3 ≤ tf b 4 := tf_mono b 3
  have h4 : tf b 4 ≤ tf b 5 := tf_mono b 4
  have : i = 0 ∨ i = 1 ∨ i = 2 ∨ i = 3 ∨ i = 4 := by omega
  rcases this with rfl | rfl | rfl | rfl | rfl
  · show tf b 1 ≤ _; omega
  · show tf b 2 ≤ _; omega
  · show tf b 3 ≤ _; omega
  · show tf b 4 ≤ _; omega
  · exact Nat.le_refl _
end Go.S
namespace Go.Proofs.Ytgjbajjggmpmmaa
open Go Go.Eng
def zeroD : DM := ⟨0, 0, 0, 0, 0, 0, [], (Sl.nil, []), (Sl.nil, []), (Sl.nil, []), (Sl.nil, [])⟩
/-- The numbers' places: where, and how many bytes. -/
def offs : List (Nat × Nat) := [(0, 4), (4, 8), (12, 4), (16, 8), (24, 4)]
/-- What stands when j numbers are read. -/
def dj (kind : Int) (b : List UInt8) (j : Nat) : DM := ⟨kind, if 1 ≤ j then (S.num b 0 4 : Int) else 0, if 2 ≤ j then (S.num b 4 8 : Int) else 0, if 3 ≤ j then (S.num b 12 4 : Int) else 0, if 4 ≤ j then (S.num b 16 8 : Int) else 0, if 5 ≤ j then (S.num b 24 4 : Int) else 0, [], (Sl.nil, []), (Sl.nil, []), (Sl.nil, []), (Sl.nil, [])⟩
theorem dj_set {kind : Int} {b : List UInt8} {j : Nat} (hj : j < 5) : (dj kind b j).cells.set (j + 1) (.int .i64 (S.num b (offs.getD j (0, 0)).1 (offs.getD j (0, 0)).2 : Int)) = (dj kind b (j + 1)).cells := by
  have : j = 0 ∨ j = 1 ∨ j = 2 ∨ j = 3 ∨ j = 4 := by omega
  rcases this with rfl | rfl | rfl | rfl | rfl <;> rfl
def entry (g j : Nat) : List Value := [.pointer (some (at_ g (j + 1))), .int .i64 ((offs.getD j (0, 0)).2 : Int)]
theorem resDB_i {P : Program} {w : World} {t g : Nat} [AggTy P t 11] {d : DM} {r : Bool} {K : Int → Int → Int → Int → Int → Int → ByteArray → Sl → Sl → Sl → Sl → Bool → World → Prop} (hv : Var w g d.cells) (hK : K d.kind d.alg d.size d.blk d.off d.loc (str d.name) d.salt.1 d.dig.1 d.key.1 d.val.1 r w) :
    ∃ v, (loadVar t (at_ g 0)).run P w = .ok v w ∧ decR [.agg lD, .one .bool] (.tuple #[v, .bool r]) K fun r => r w :=
  resV_i (n := 11) hv rfl hK
def fives (σ : Nat → Sl) (i : Nat) : List Value := (List.range 5).map fun j => if j < i then slV (σ j) else slV Sl.nil
theorem fives_set {σ : Nat → Sl} {i : Nat} {s : Sl} (hi : i < 5) : (fives σ i).set i (slV s) = fives (fun j => if j = i then s else σ j) (i + 1) := by
  have : i = 0 ∨ i = 1 ∨ i = 2 ∨ i = 3 ∨ i = 4 := by omega
  rcases this with rfl | rfl | rfl | rfl | rfl <;> simp [fives, List.range_succ]
theorem fives_get {σ : Nat → Sl} {j : Nat} (hj : j < 5) : (fives σ 5)[j]? = some (slV (σ j)) := by
  unfold fives
  rw [List.getElem?_map, List.getElem?_range hj]
  simp [hj]
abbrev DM.inB (d : DM) (k : Nat) : Prop := d.salt.1.inB k ∨ d.dig.1.inB k ∨ d.key.1.inB k ∨ d.val.1.inB k
theorem dread_s {kind : Int} {p1 : Sl} {b : List UInt8} {K : Int → Int → Int → Int → Int → Int → ByteArray → Sl → Sl → Sl → Sl → Bool → World → Prop} {w : World} (hs : Bts w p1 b) (hlen : b.length ≤ 100000) (hk : 0 ≤ kind ∧ kind ≤ 4)
    (hBad : S.rd kind b = false → ∀ (d : DM) w', Ext w w' → K d.kind d.alg d.size d.blk d.off d.loc (str d.name) d.salt.1 d.dig.1 d.key.1 d.val.1 false w')
    (hOk : S.rd kind b = true → ∀ (d : DM) w', Ext w w' → d.pure = S.desAt kind b → d.Ok w' → (∀ k, d.inB k → w.heap.size ≤ k ∧ k < w'.heap.size) → K d.kind d.alg d.size d.blk d.off d.loc (str d.name) d.salt.1 d.dig.1 d.key.1 d.val.1 true w') :
    callS Try.prog 39 #[.int .i64 kind, .slice p1.a p1.len p1.cap] [.agg lD, .one .bool] K w := by
  refine f39_ok ?_
  unfold f39
  have hbl := Bts.len hs
  refine alloc_i fun g1 w1 e1 hg1 v1 => ?_
  have v1 : Var w1 g1 zeroD.cells := v1
  have hg1l := v1.lt
  have bad : S.rd kind b = false → ∀ (w2 : World) (cs : List Value), Ext w w2 → Var w2 g1 cs → cs.length = 11 → semU Try.prog (Instr.storeAt 27 (.pointer (some (at_ g1 0))) (.agg #[(.int .i64 0), (.int .i64 0), (.int .i64 0), (.int .i64 0), (.int .i64 0), (.int .i64 0), (.string ByteArray.empty), (.slice none 0 0), (.slice none 0 0), (.slice none 0 0), (.slice none 0 0)])) (fun w =>
      ∃ v2, (loadVar 27 (at_ g1 0)).run Try.prog w = .ok v2 w ∧ decR [(.agg lD), (.one .bool)] (.tuple #[v2, (.bool false)]) K fun r => r w) w2 := fun hr w2 cs e2 v2 hl => by
    refine stD_i (d := zeroD) v2 hl fun w3 f3 v3 => ?_
    exact resDB_i v3 (hBad hr zeroD w3 (Fr.own1 e2 f3 hg1))
  refine cond_i (fun hc => ?_) (fun hc => ?_)
  · have h48 : b.length < 48 := by have : (p1.len : Int) < 48 := of_decide_eq_true hc
                                   omega
    exact bad (by unfold S.rd; rw [decide_eq_false (show ¬ 48 ≤ b.length by omega)]; rfl) w1 _ e1 v1 rfl
  have h48 : 48 ≤ b.length := by have : ¬ (p1.len : Int) < 48 := of_decide_eq_false hc
                                 omega
  refine alloc_i fun g3 w2 e2 hg3 v2 => ?_
  refine stD_i (d := dj kind b 0) v2 rfl fun w3 f3 v3 => ?_
  have E3 : Ext w1 w3 := Fr.own1 e2 f3 hg3
  have s1 := e1.size
  have hg3l := v3.lt
  refine buildSlice_i (sz := 2) ((List.range 5).map (entry g3)).flatten.toArray (by kernel_rfl) rfl (by omega) fun u w4 e4 o4 hul => ?_
  have rds : Rds w4 u 2 ((List.range 5).map (entry g3)) := ⟨o4.rd, by rw [hul, List.length_map, List.length_range], fun c hc => by
    obtain ⟨p, _, rfl⟩ := List.mem_map.1 hc; rfl⟩
  obtain ⟨ua, hua⟩ := rds.some (by omega)
  have hub : ∀ k, u.inB k → w3.heap.size ≤ k ∧ k < w4.heap.size := fun k hk => o4.inB hk
  have E4 : Ext w1 w4 := E3.trans e4
  have v4 := v3.ext e4
  -- what the loop leaves: the first world, but for the variable g3
  have hat : ∀ j, j < 5 → (offs.getD j (0, 0)).1 + (offs.getD j (0, 0)).2 ≤ 28 ∧ ((offs.getD j (0, 0)).2 = 4 ∨ (offs.getD j (0, 0)).2 = 8) ∧ (offs.getD (j + 1) (28, 0)).1 = (offs.getD j (0, 0)).1 + (offs.getD j (0, 0)).2 := fun j hj => by
    have : j = 0 ∨ j = 1 ∨ j = 2 ∨ j = 3 ∨ j = 4 := by omega
    rcases this with rfl | rfl | rfl | rfl | rfl <;> decide
  have hsz : ∀ j, j < 5 → S.rd kind b = true → S.num b (offs.getD j (0, 0)).1 (offs.getD j (0, 0)).2 < 9223372036854775808 := fun j hj hr => by
    have h := S.rd_size hr
    have n0 := S.num4 b 0
    have n12 := S.num4 b 12
    have n24 := S.num4 b 24
    have : j = 0 ∨ j = 1 ∨ j = 2 ∨ j = 3 ∨ j = 4 := by omega
    rcases this with rfl | rfl | rfl | rfl | rfl
    · show S.num b 0 4 < _; omega
    · show S.num b 4 8 < _; omega
    · show S.num b 12 4 < _; omega
    · show S.num b 16 8 < _; omega
    · show S.num b 24 4 < _; omega
  refine loop_i (fun (st : Int × Int) w' => ∃ j : Nat, j ≤ 5 ∧ st = (((offs.getD j (28, 0)).1 : Int), (j : Int)) ∧ Fr (fun k => k = g3) w4 w' ∧ Var w' g3 (dj kind b j).cells) (fun st _ => 5 - st.2.toNat) ⟨0, by omega, rfl, Fr.refl _ _, v4⟩ ?_
  rintro st w5 again ⟨j, hj, rfl, f5, v5⟩ hag
  dsimp only
  have hne1 : g1 ≠ g3 := by have := E3.size; omega
  have v15 : Var w5 g1 zeroD.cells := (v1.ext E4).fr f5 hne1
  have E5 : Ext w w5 := Fr.own1 (e1.trans E4) f5 (by omega)
  refine cond_i (fun hlt => ?_) (fun hge => ?_)
  · have hj5 : j < 5 := by have : (j : Int) < (u.len : Int) := of_decide_eq_true hlt
                           omega
    obtain ⟨q1, q2, q3⟩ := hat j hj5
    have hp : ((List.range 5).map (entry g3))[j]? = some (entry g3 j) := by rw [List.getElem?_map, List.getElem?_range hj5]; rfl
    have hrow : ∀ i v, (entry g3 j)[i]? = some v → w5.cell? ((ua.add (j * 2)).add i) = some v := fun i v hv => f5.cell (rds.elem hua hp i v hv) (by
      rw [add_block, add_block]
      have := hub ua.block ⟨ua, hua, rfl⟩
      omega)
    refine ix_i hua (by omega) (by omega) ?_
    rw [Int.toNat_natCast]
    refine ldA_i (n := 2) (cs := entry g3 j) rfl hrow ?_
    show semS Try.prog (Instr.alloc _ true (.tuple #[])) (.one .adr) _ w5
    refine alloc_i fun g6 w6 e6 hg6 v6 => ?_
    refine stV_i (n := 2) (vs := entry g3 j) 0 v6 rfl (Nat.le_refl 2) (fun v hv => by simp only [entry, List.mem_cons, List.not_mem_nil, or_false] at hv; rcases hv with rfl | rfl <;> rfl) fun w7 f7 v7 => ?_
    have v7 : Var w7 g6 (entry g3 j) := v7
    have e57 := Fr.own1 e6 f7 hg6
    have hg3w5 := v5.lt
    have hne6 : g6 ≠ g3 := by omega
    refine ld1_i (l := .int .i64) (o := 1) (((offs.getD j (0, 0)).2 : Nat) : Int) v7 rfl ?_
    have hoj : (offs.getD j (28, 0)).1 = (offs.getD j (0, 0)).1 := by
      have : j = 0 ∨ j = 1 ∨ j = 2 ∨ j = 3 ∨ j = 4 := by omega
      rcases this with rfl | rfl | rfl | rfl | rfl <;> rfl
    rw [hoj]
    have hs7 := hs.ext (E5.trans e57)
    refine get_s hs7 (by omega) (by constructor <;> omega) (by constructor <;> omega) ?_
    rw [S.get_num (by omega) (by omega)]
    have hnum : ∀ (r : S.rd kind b = true), S.num b (offs.getD j (0, 0)).1 (offs.getD j (0, 0)).2 < 9223372036854775808 := fun r => hsz j hj5 r
    by_cases hbig : S.num b (offs.getD j (0, 0)).1 (offs.getD j (0, 0)).2 ≥ 9223372036854775808
    · rw [if_pos hbig]
      refine cond_i (fun _ => ?_) (fun h => by simp at h)
      refine bad ?_ w7 _ (E5.trans e57) (v15.ext e57) rfl
      rw [Bool.eq_false_iff]
      intro hr
      have := hnum hr
      omega
    · rw [if_neg hbig]
      refine cond_i (fun h => by simp at h) (fun _ => ?_)
      have hd := Ext.drew w7
      have v8 := v7.ext hd
      refine ⟨fun y => Var y g6 (entry g3 j), v8, ?_⟩
      refine ld1Q_i (l := .ptr) (o := 0) (some (at_ g3 (j + 1))) (fun y hy => hy) rfl ?_
      refine ld1Q_i (l := .int .i64) (o := 1) (((offs.getD j (0, 0)).2 : Nat) : Int) (fun y hy => hy) rfl ?_
      refine nil_i rfl ?_
      have v58 := (v5.ext e57).ext hd
      refine st1_i (o := j + 1) v58 (show j + 1 < 11 by omega) rfl fun w9 f9 v9 => ?_
      refine more_i (v8.fr f9 hne6) ?_
      rw [dj_set hj5] at v9
      rw [wrap_i64 (x := (((offs.getD j (0, 0)).1 : Nat) : Int) + (((offs.getD j (0, 0)).2 : Nat) : Int)) (by omega) (by omega), wrap_i64 (x := (j : Int) + 1) (by omega) (by omega)]
      refine hag _ w9 ⟨j + 1, by omega, ?_, (f5.then (e57.trans hd)).trans' f9, v9⟩ ?_
      · rw [q3]
        rw [Int.natCast_add, Int.natCast_add]; rfl
      · show 5 - ((j : Int) + 1).toNat < 5 - ((j : Int)).toNat
        omega
  have hj5 : j = 5 := by have : ¬ (j : Int) < (u.len : Int) := of_decide_eq_false hge
                         omega
  subst hj5
  rw [show (offs.getD 5 (28, 0)).1 = 28 from rfl]
  refine alloc_i fun g18 w6 e6 hg18 v6 => ?_
  have v6 : Var w6 g18 (fives (fun _ => Sl.nil) 0) := v6
  have hg18l := v6.lt
  have E6 := E5.trans e6
  have v36 := v5.ext e6
  have v16 := v15.ext e6
  have hg3w5 := v5.lt
  have hg1w5 := v15.lt
  refine loop_i (fun (st : Int × Int × Int) w' => ∃ (i : Nat) (σ : Nat → Sl), i ≤ 5 ∧ st = (((28 + 4 * i : Nat) : Int), ((S.tf b i : Nat) : Int), (i : Int)) ∧ S.tf b i ≤ b.length ∧ Fr (fun k => k = g18) w6 w' ∧ Var w' g18 (fives σ i) ∧ ∀ j, j < i → OwnB w' w6.heap.size (σ j) (S.tt b j)) (fun st _ => 5 - st.2.2.toNat) ⟨0, fun _ => Sl.nil, by omega, rfl, h48, Fr.refl _ _, v6, fun j hj => by omega⟩ ?_
  rintro st w7 again2 ⟨i, σ, hi, rfl, hfit, f7, v7, hσ⟩ hag2
  dsimp only
  have E7 : Ext w w7 := Fr.own1 E6 f7 (by have := E5.size; omega)
  have v37 : Var w7 g3 _ := v36.fr f7 (by omega)
  have v17 : Var w7 g1 _ := v16.fr f7 (by omega)
  refine cond_i (fun hlt => ?_) (fun hge => ?_)
  · have hi5 : i < 5 := by have : (i : Int) < 5 := of_decide_eq_true hlt
                           omega
    have hs7 := hs.ext E7
    refine get_s (off := ((28 + 4 * i : Nat) : Int)) (size := ((4 : Nat) : Int)) hs7 (by omega) (by constructor <;> omega) (by constructor <;> omega) ?_
    have hn4 := S.num4 b (28 + 4 * i)
    rw [S.get_num (by omega) (by omega), if_neg (by omega)]
    have htn : S.num b (28 + 4 * i) 4 = S.tn b i := rfl
    rw [htn] at hn4 ⊢
    dsimp only
    refine cut_s hs7 (by omega) (by constructor <;> omega) (by constructor <;> omega) fun v w8 e8 o8 => ?_
    unfold S.cut at o8 ⊢
    by_cases hin : S.tf b i + S.tn b i ≤ b.length
    · have hw : S.within (S.tf b i : Int) (S.tn b i : Int) (b.length : Int) = true := S.within_iff.2 (by omega)
      rw [hw] at o8 ⊢
      rw [if_neg (by simp)] at o8 ⊢
      simp only [Int.toNat_natCast] at o8
      refine cond_i (fun h => by simp at h) (fun _ => ?_)
      refine stA_i (o := 0) (v7.ext e8) (by omega) (by omega) (by rw [Int.toNat_natCast]; show 0 + i < 5; omega) rfl fun w9 f9 v9 => ?_
      rw [Int.toNat_natCast, Nat.zero_add, show Value.slice v.a v.len v.cap = slV v from rfl, fives_set hi5] at v9
      have s7 := f7.size
      rw [wrap_i64 (x := (((28 + 4 * i : Nat) : Int)) + 4) (by omega) (by omega), wrap_i64 (x := ((S.tf b i : Nat) : Int) + ((S.tn b i : Nat) : Int)) (by omega) (by omega), wrap_i64 (x := (i : Int) + 1) (by omega) (by omega)]
      refine hag2 _ w9 ⟨i + 1, _, by omega, ?_, hin, (f7.then e8).trans' f9, v9, fun j hj => ?_⟩ ?_
      · rw [show ((28 + 4 * i : Nat) : Int) + 4 = ((28 + 4 * (i + 1) : Nat) : Int) by omega, show (i : Int) + 1 = ((i + 1 : Nat) : Int) by omega]
        rw [← Int.natCast_add]; rfl
      · by_cases hji : j = i
        · subst hji
          rw [if_pos rfl]
          refine (o8.fr f9 fun a ha h => ?_).base s7
          have := o8.inB ⟨a, ha, rfl⟩
          omega
        · rw [if_neg hji]
          refine ((hσ j (by omega)).ext e8).fr f9 fun a ha h => ?_
          have := (hσ j (by omega)).inB ⟨a, ha, rfl⟩
          omega
      · show 5 - ((i : Int) + 1).toNat < 5 - ((i : Int)).toNat
        omega
    · have hw : S.within (S.tf b i : Int) (S.tn b i : Int) (b.length : Int) = false := by
        rw [Bool.eq_false_iff]
        intro h
        have := S.within_iff.1 h
        omega
      rw [hw] at o8 ⊢
      rw [if_pos rfl] at o8 ⊢
      refine cond_i (fun _ => ?_) (fun h => by simp at h)
      refine bad ?_ w8 _ (E7.trans e8) (v17.ext e8) rfl
      unfold S.rd
      have h5 := S.tf_5 b (i := i) (by omega)
      have h6 : S.tf b (i + 1) = S.tf b i + S.tn b i := rfl
      rw [decide_eq_false (show ¬ S.tf b 5 ≤ b.length by omega), Bool.and_false]; rfl
  have hi5 : i = 5 := by have : ¬ (i : Int) < 5 := of_decide_eq_false hge
                         omega
  subst hi5
  have hd := Ext.drew w7
  have v8 := v7.ext hd
  have hσ0 := (hσ 0 (by omega)).ext hd
  have hb3 : ∀ k, k = g3 → k < w6.heap.size := fun k hk => by have := e6.size; omega
  refine ⟨fun y => Var y g18 (fives σ 5) ∧ Bts y (σ 0) (S.tt b 0), ⟨v8, hσ0.rd⟩, ?_⟩
  have L : ∀ (j : Nat) (hj : j < 5) {K' : Sl → Prop}, K' (σ j) → semQ Try.prog (fun y => Var y g18 (fives σ 5) ∧ Bts y (σ 0) (S.tt b 0)) (Instr.indexAt 83 (.pointer (some (at_ g18 0))) (.int .i64 (j : Int))) (.one .adr) (fun a => semQ Try.prog (fun y => Var y g18 (fives σ 5) ∧ Bts y (σ 0) (S.tt b 0)) (Instr.loadAt 25 (.pointer (some a))) (.one .slc) K') := fun j hj K' h =>
    elAQ_i (l := .slc) (x := σ j) (o := 0) (fun y hy => hy.1) (by omega) (by omega) (by rw [Int.toNat_natCast, Nat.zero_add, fives_get hj]; rfl) h
  refine L 0 (by omega) ?_
  refine b2sQ_i (fun y hy => hy.2) ?_
  refine L 1 (by omega) (L 2 (by omega) (L 3 (by omega) (L 4 (by omega) ?_)))
  have keep : ∀ {w8 w9 : World}, Fr (fun k => k = g3) w8 w9 → (Var w8 g18 (fives σ 5) ∧ Bts w8 (σ 0) (S.tt b 0)) ∧ (∀ j, j < 5 → OwnB w8 w6.heap.size (σ j) (S.tt b j)) → (Var w9 g18 (fives σ 5) ∧ Bts w9 (σ 0) (S.tt b 0)) ∧ (∀ j, j < 5 → OwnB w9 w6.heap.size (σ j) (S.tt b j)) := fun {w8 w9} f h => by
    have ho : ∀ j, j < 5 → OwnB w9 w6.heap.size (σ j) (S.tt b j) := fun j hj => (h.2 j hj).fr f fun a ha e => by
      have h1 := ((h.2 j hj).inB ⟨a, ha, rfl⟩).1
      have h2 := hb3 _ e
      omega
    exact ⟨⟨h.1.1.fr f (by omega), (ho 0 (by omega)).rd⟩, ho⟩
  have k8 : (Var w7.drew g18 (fives σ 5) ∧ Bts w7.drew (σ 0) (S.tt b 0)) ∧ (∀ j, j < 5 → OwnB w7.drew w6.heap.size (σ j) (S.tt b j)) := ⟨⟨v8, hσ0.rd⟩, fun j hj => (hσ j hj).ext hd⟩
  refine st1_i (o := 6) (v37.ext hd) (show 6 < 11 by decide) rfl fun w9 f9 v9 => ?_
  have k9 := keep f9 k8
  refine more_i k9.1 ?_
  refine st1_i (o := 7) v9 (show 7 < 11 by decide) rfl fun w10 f10 v10 => ?_
  have k10 := keep f10 k9
  refine more_i k10.1 ?_
  refine st1_i (o := 8) v10 (show 8 < 11 by decide) rfl fun w11 f11 v11 => ?_
  have k11 := keep f11 k10
  refine more_i k11.1 ?_
  refine st1_i (o := 9) v11 (show 9 < 11 by decide) rfl fun w12 f12 v12 => ?_
  have k12 := keep f12 k11
  refine more_i k12.1 ?_
  refine st1_i (o := 10) v12 (show 10 < 11 by decide) rfl fun w13 f13 v13 => ?_
  have k13 := keep f13 k12
  have F13 : Fr (fun k => k = g3) w7.drew w13 := (((f9.trans' f10).trans' f11).trans' f12).trans' f13
  have E13 : Ext w w13 := Fr.own1 (E7.trans hd) F13 (by omega)
  let D : DM := ⟨kind, S.num b 0 4, S.num b 4 8, S.num b 12 4, S.num b 16 8, S.num b 24 4, S.tt b 0, (σ 1, S.tt b 1), (σ 2, S.tt b 2), (σ 3, S.tt b 3), (σ 4, S.tt b 4)⟩
  have v13 : Var w13 g3 D.cells := v13
  have v113 : Var w13 g1 zeroD.cells := (v17.ext hd).fr F13 hne1
  have hDp : D.pure = S.desAt kind b := rfl
  have htl : ∀ j, (S.tt b j).length ≤ b.length := fun j => by unfold S.tt; rw [List.length_take, List.length_drop]; omega
  have t0 := htl 0
  have t1 := htl 1
  have t2 := htl 2
  have t3 := htl 3
  have t4 := htl 4
  have n0 := S.num4 b 0
  have n12 := S.num4 b 12
  have n24 := S.num4 b 24
  have hDsm : D.Sm := ⟨by show (S.tt b 0).length ≤ _; omega, by show (S.tt b 1).length ≤ _; omega, by show (S.tt b 2).length ≤ _; omega, by show (S.tt b 3).length ≤ _; omega, by show (S.tt b 4).length ≤ _; omega⟩
  have hDln : D.Ln := ⟨OwnB.len (k13.2 1 (by omega)), OwnB.len (k13.2 2 (by omega)), OwnB.len (k13.2 3 (by omega)), OwnB.len (k13.2 4 (by omega))⟩
  have hd2 := Ext.drew w13
  have hrd : S.rd kind b = (D.pure.right && (D.pure.body == b)) := by
    unfold S.rd
    rw [decide_eq_true h48, decide_eq_true hfit, ← hDp]; rfl
  have hfr : ∀ k, D.inB k → w.heap.size ≤ k ∧ k < w13.heap.size := fun k hk => by
    have h6 := E6.size
    rcases hk with hk | hk | hk | hk
    · have := (k13.2 1 (by omega)).inB hk; omega
    · have := (k13.2 2 (by omega)).inB hk; omega
    · have := (k13.2 3 (by omega)).inB hk; omega
    · have := (k13.2 4 (by omega)).inB hk; omega
  refine ⟨fun y => Ext w13 y, hd2, ?_⟩
  refine ldDQ_i (d := D) (fun y hy => v13.ext hy) ?_
  refine ldDQ_i (d := D) (fun y hy => v13.ext hy) ?_
  refine dRight_s (d := D) hDln hDsm fun w14 e14 => ?_
  refine more_i (hd2.trans e14) ?_
  have e1314 := hd2.trans e14
  have hg1w : w.heap.size ≤ g1 := hg1
  refine cond_i (fun hr => ?_) (fun hr => ?_)
  · have hf := S.Des.fits hr
    have okD : D.Ok w13 := ⟨⟨by show _ ≤ kind; omega, by show kind ≤ _; omega⟩, ⟨by show _ ≤ ((S.num b 0 4 : Nat) : Int); omega, by show ((S.num b 0 4 : Nat) : Int) ≤ _; omega⟩, ⟨by show _ ≤ ((S.num b 4 8 : Nat) : Int); omega, Int.le_trans hf.size.2 (by decide)⟩, ⟨by show _ ≤ ((S.num b 12 4 : Nat) : Int); omega, by show ((S.num b 12 4 : Nat) : Int) ≤ _; omega⟩, ⟨by show _ ≤ ((S.num b 16 8 : Nat) : Int); omega, Int.le_trans hf.off.2 (by decide)⟩, ⟨by show _ ≤ ((S.num b 24 4 : Nat) : Int); omega, by show ((S.num b 24 4 : Nat) : Int) ≤ _; omega⟩, by show (S.tt b 0).length ≤ _; omega,
      (k13.2 1 (by omega)).rd, (k13.2 2 (by omega)).rd, (k13.2 3 (by omega)).rd, (k13.2 4 (by omega)).rd⟩
    refine ldDQ_i (d := D) (fun y hy => v13.ext hy) ?_
    refine body_s (d := D) hr (okD.ext e1314) fun r15 w15 e15 o15 => ?_
    have e1315 := e1314.trans e15
    refine more_i e1315 ?_
    refine equal_s o15.rd (hs.ext (E13.trans e1315)) ?_
    refine more_i e1315 ?_
    refine stD_i (d := D) (v113.ext e1315) rfl fun w16 f16 v16' => ?_
    have E16 : Ext w w16 := Fr.own1 (E13.trans e1315) f16 hg1w
    have ok16 : D.Ok w16 := (okD.ext e1315).fr f16 fun k hk h => by
      have h1 : k = g1 := h
      have h6 : w6.heap.size ≤ k := by
        rcases hk with hk | hk | hk | hk
        · exact ((k13.2 1 (by omega)).inB hk).1
        · exact ((k13.2 2 (by omega)).inB hk).1
        · exact ((k13.2 3 (by omega)).inB hk).1
        · exact ((k13.2 4 (by omega)).inB hk).1
      have := e6.size
      omega
    unfold f39_t1
    refine resDB_i v16' ?_
    cases hb : (D.pure.body == b) with
    | true => exact hOk (by rw [hrd, hr, hb]; rfl) D w16 E16 hDp ok16 fun k hk => ⟨(hfr k hk).1, Nat.lt_of_lt_of_le (hfr k hk).2 (Nat.le_trans e1315.size f16.size)⟩
    | false => exact hBad (by rw [hrd, hr, hb]; rfl) D w16 E16
  · refine stD_i (d := D) (v113.ext e1314) rfl fun w16 f16 v16' => ?_
    have E16 : Ext w w16 := Fr.own1 (E13.trans e1314) f16 hg1w
    unfold f39_t1
    refine resDB_i v16' ?_
    exact hBad (by rw [hrd, hr]; rfl) D w16 E16
end Go.Proofs.Ytgjbajjggmpmmaa
