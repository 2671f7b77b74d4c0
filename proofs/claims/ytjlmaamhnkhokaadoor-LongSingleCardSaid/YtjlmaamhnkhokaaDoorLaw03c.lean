/- Layer 3 (long sums): the laws LongGoes, LongEdges and LongSingle. -/
import Derived.Test.YtjlmaamhnkhokaaDoorLaw03b
set_option linter.unusedSimpArgs false
set_option linter.unusedVariables false
namespace Go.Proofs.YtjlmaamhnkhokaaDoor.L
open Go Go.Eng

theorem Beside.ext {w w' : World} {B g : Nat} {r v : Sl} {all : List UInt8} (h : Beside w B g r v all) (e : Ext w w') : Beside w' B g r v all := ⟨h.hash.ext e, h.own.ext e, h.ne, h.apart⟩
theorem LongGoes_s {s : Sl} {xs : List (Sl × List UInt8)} {K : Bool → World → Prop} {w : World} (hp : Parts w s xs) (ht : Tabs w) (hK : ∀ w', Ext w w' → K true w') :
    callS Tryd.prog 4 #[.slice s.a s.len s.cap] [.one .bool] K w := by
  refine f4_ok ?_
  unfold f4
  have hsl := hp.len
  refine anchor2_s ht fun w1 e1 => ?_
  refine cond_i (fun h => by cases h) (fun _ => ?_)
  refine cond_i (fun _ => hK w1 e1) (fun h20 => ?_)
  have hx20 : xs.length ≤ 20 := by simp at h20; omega
  have ht1 := ht.ext e1
  have hp1 := hp.ext e1
  refine new_s ht1 fun g w2 e2 hg h2 => ?_
  refine loop_i (fun (x : Sl × Int) w' => ∃ (i : Nat) (r : Sl), i ≤ xs.length ∧ x.2 = i ∧ Ext w1 w' ∧ Beside w' w1.heap.size g r x.1 (flatB (xs.take i)) ∧ (flatB (xs.take i)).length ≤ 300 * i) (fun x _ => xs.length - x.2.toNat) ⟨0, Sl.nil, by omega, rfl, e2, ⟨h2, Own.nilSl _ _ _, Sl.nil_inB _, fun k hk => absurd hk (Sl.nil_inB _)⟩, by simp [flatB]⟩ ?_
  rintro ⟨v, i'⟩ w3 again ⟨i, r, hi, hxi, e3, b3, hl3⟩ hag
  dsimp only at hxi b3 hl3 ⊢
  subst hxi
  refine cond_i (fun hlt => ?_) (fun hge => ?_)
  · have hi' : i < xs.length := by simp at hlt; omega
    have hb := hp1.each xs[i] (List.getElem_mem _)
    have hbl := Bts.len hb
    have hsn := flatB_snoc hi'
    refine part_i (hp1.ext e3) (by omega) (by omega) ?_
    simp only [Int.toNat_natCast]
    refine cond_i (fun _ => hK w3 (e1.trans e3)) (fun h6 => ?_)
    have h300 : xs[i].2.length ≤ 300 := by simp at h6; omega
    have hlen : (flatB (xs.take i) ++ xs[i].2).length ≤ 300 * (i + 1) := by rw [List.length_append]; omega
    refine beside_i (K := fun r7 w => callS Tryd.prog 13 #[.pointer (some (at_ g 0))] [.one .slc] _ w) b3 rfl e3 ht1 hb (by omega) fun r' v' w4 e4 b4 => ?_
    rw [← hsn] at b4 hlen
    generalize hall : flatB (xs.take (i + 1)) = all at b4 hlen
    have hg4 : g < w4.heap.size := b4.hash.var.lt
    refine sum_s b4.hash (ht1.ext e4) (by omega) fun u w5 e5 o5 => ?_
    have E5 := e4.trans e5
    have d5 := Ext.drew w5
    refine ⟨fun x => Ext w5 x, d5, ?_⟩
    refine b2sQ_i (fun x hx => o5.rd.ext hx) ?_
    refine one_i (bs := all) (b4.own.rd.ext (e5.trans d5)) fun y w6 e6 p6 => ?_
    refine more2_i (fun x => Ext w6 x) (Fr.refl _ _) (fun x hx => (d5.trans e6).trans hx) ?_
    have E6 := (E5.trans d5).trans e6
    refine of_s p6 (ht1.ext E6) (by simp [flatB]; omega) (by simp) fun u2 w7 e7 o7 => ?_
    refine more2_i (fun x => Ext w7 x) (Fr.refl _ _) (fun x hx => e7.trans hx) ?_
    refine b2sQ_i (fun x hx => o7.rd.ext hx) ?_
    refine cond_i (fun h => by rw [eq_str (by simp [flatB])] at h; cases h) (fun _ => ?_)
    have E7 := E6.trans e7
    have e57 := (d5.trans e6).trans e7
    have o57 := o5.ext e57
    have hul := OwnB.len o5
    rw [S.L.sum2_len] at hul
    refine loop_i (fun (j : Int) w' => ∃ (n : Nat) (ys : List UInt8), n ≤ 64 ∧ j = n ∧ Fr u.inB w7 w' ∧ OwnB w' w4.heap.size u ys) (fun j _ => 64 - j.toNat) ⟨0, _, by omega, rfl, Fr.refl _ _, o57⟩ ?_
    rintro j w8 again2 ⟨n, ys, hn, rfl, f8, o8⟩ hag2
    refine cond_i (fun hlt2 => ?_) (fun hge2 => ?_)
    · have hn' : n < 64 := by simp at hlt2; omega
      refine put1_i 0 o8 (by omega) (by omega) rfl fun w9 f9 o9 => ?_
      refine hag2 _ w9 ⟨n + 1, _, by omega, ?_, f8.trans' f9, o9⟩ ?_
      · rw [wrap_i64 (by omega) (by omega)]; omega
      · rw [wrap_i64 (by omega) (by omega)]; omega
    · have hu4 : ∀ k, u.inB k → w4.heap.size ≤ k := fun k hk => (o5.inB hk).1
      have E8 : Ext w4 w8 := Ext.own (e5.trans e57) f8 hu4
      refine hag _ w8 ⟨i + 1, r', by omega, ?_, e4.trans E8, ?_, ?_⟩ ?_
      · simp only [wrap_i64 (x := (i : Int) + 1) (by omega) (by omega)]; omega
      · rw [hall]; exact b4.ext E8
      · rw [hall]; exact hlen
      · simp only [wrap_i64 (x := (i : Int) + 1) (by omega) (by omega)]; omega
  · have hi' : i = xs.length := by simp at hge; omega
    subst hi'
    rw [List.take_of_length_le (Nat.le_refl _)] at b3 hl3
    have d3 := Ext.drew w3
    refine ⟨fun x => Ext w3 x, d3, ?_⟩
    refine sum_s (b3.hash.ext d3) (ht1.ext (e3.trans d3)) (by omega) fun v4 w4 e4 o4 => ?_
    refine more2_i (fun x => Ext w4 x) (Fr.refl _ _) (fun x hx => (d3.trans e4).trans hx) ?_
    refine b2sQ_i (fun x hx => o4.rd.ext hx) ?_
    refine refSum_s (b3.own.rd.ext (d3.trans e4)) (by omega) fun v5 w5 e5 o5 => ?_
    refine more2_i (fun x => Ext w5 x) (Fr.refl _ _) (fun x hx => e5.trans hx) ?_
    refine b2sQ_i (fun x hx => o5.rd.ext hx) ?_
    rw [eq_str rfl]
    exact hK w5 (e1.trans (((e3.trans d3).trans e4).trans e5))

theorem LongEdges_s {p0 p1 p2 : Int} {K : Bool → World → Prop} {w : World} (h0 : S.I64 p0) (h1 : S.I64 p1) (h2 : S.I64 p2) (ht : Tabs w) (hK : ∀ w', Ext w w' → K true w') :
    callS Tryd.prog 5 #[.int .i64 p0, .int .i64 p1, .int .i64 p2] [.one .bool] K w := by
  refine f5_ok ?_
  unfold f5
  refine anchor2_s ht fun w1 e1 => ?_
  refine cond_i (fun h => by cases h) (fun _ => ?_)
  refine cond_i (fun _ => hK w1 e1) (fun hg => ?_)
  simp only [Bool.or_eq_false_iff, decide_eq_false_iff_not] at hg
  obtain ⟨⟨⟨⟨⟨⟨g1, g2⟩, g3⟩, g4⟩, g5⟩, g6⟩, g7⟩ := hg
  rw [wrap_i64 (x := 128 * p0) (by omega) (by omega), wrap_i64 (x := 128 * p0 + p1) (by omega) (by omega)] at g7 ⊢
  have ht1 := ht.ext e1
  refine makeB_i (by omega) (by omega) fun v w2 e2 o2 => ?_
  have hvl := OwnB.len o2
  simp only [List.length_replicate] at hvl
  refine loop_i (fun (j : Int) w' => ∃ (n : Nat) (ys : List UInt8), n ≤ v.len ∧ j = n ∧ Ext w1 w' ∧ OwnB w' w1.heap.size v ys) (fun j _ => v.len - j.toNat) ⟨0, _, by omega, rfl, e2, o2⟩ ?_
  rintro j w3 again ⟨n, ys, hn, rfl, e3, o3⟩ hag
  have hyl := OwnB.len o3
  refine cond_i (fun hlt => ?_) (fun hge => ?_)
  · have hn' : n < v.len := by simp at hlt; omega
    refine put1_i (u8 p2) o3 (by omega) (by omega) (wrap_u8_b p2) fun w4 f4 o4 => ?_
    refine hag _ w4 ⟨n + 1, _, by omega, ?_, Ext.own e3 f4 fun k hk => (o3.inB hk).1, o4⟩ ?_
    · rw [wrap_i64 (by omega) (by omega)]; omega
    · rw [wrap_i64 (by omega) (by omega)]; omega
  · clear hag
    refine one_i (bs := ys) o3.rd fun y w4 e4 p4 => ?_
    have E4 := e3.trans e4
    refine of_s p4 (ht1.ext E4) (by simp [flatB]; omega) (by simp) fun u w5 e5 o5 => ?_
    have hul := OwnB.len o5
    rw [S.L.sum2_len] at hul
    have E5 := E4.trans e5
    have d5 := Ext.drew w5
    refine ⟨fun x => Ext w5 x, d5, ?_⟩
    refine cond_i (fun _ => ?_) (fun h => by rw [hul] at h; cases h)
    refine b2sQ_i (fun x hx => o5.rd.ext hx) ?_
    refine refSum_s (o3.rd.ext ((e4.trans e5).trans d5)) (by omega) fun v6 w6 e6 o6 => ?_
    refine more2_i (fun x => Ext w6 x) (Fr.refl _ _) (fun x hx => (d5.trans e6).trans hx) ?_
    refine b2sQ_i (fun x hx => o6.rd.ext hx) ?_
    rw [eq_str (by simp [flatB])]
    exact hK w6 (e1.trans ((E5.trans d5).trans e6))

/-- What comes in is apart from what was laid since. -/
theorem sep_in {w1 : World} {c : List UInt8} {q : Sl} (hq : Bts w1 q c) {g : Nat} {r : Sl} (h1 : w1.heap.size ≤ g) (h2 : ∀ k, r.inB k → w1.heap.size ≤ k) : c ≠ [] → ∀ a, q.a = some a → ¬ (a.block = g ∨ r.inB a.block) := by
  intro hne a ha hk
  have := rd_lt hq (by simpa using hne) ha
  rcases hk with hk | hk
  · omega
  · have := h2 _ hk; omega
theorem single_t1_s {g h : Nat} {r q p0 p1 : Sl} {bs cs : List UInt8} {K : Bool → World → Prop} {w1 w : World} (e : Ext w1 w) (ht1 : Tabs w1) (hb1 : Bts w1 p0 bs) (hc1 : Bts w1 p1 cs) (hbl : bs.length ≤ 500) (hcl : cs.length ≤ 500) (hg : HashAt w w1.heap.size g r bs) (hh : HashAt w w1.heap.size h q bs) (hgh : g ≠ h) (hgq : ¬ q.inB g) (hhr : ¬ r.inB h) (hrq : ∀ k, r.inB k → ¬ q.inB k)
    (hK : ∀ w', Ext w1 w' → K true w') : f7_t1 false K (some (at_ g 0)) p1 (some (at_ h 0)) p0 w := by
  unfold f7_t1
  refine cond_i (fun h => by cases h) (fun _ => ?_)
  have gB := hg.base
  have hB := hh.base
  have rB : ∀ k, r.inB k → w1.heap.size ≤ k := fun k hk => (hg.own.inB hk).1
  have qB : ∀ k, q.inB k → w1.heap.size ≤ k := fun k hk => (hh.own.inB hk).1
  have qlt : ∀ k, q.inB k → k < w.heap.size := fun k hk => (hh.own.inB hk).2
  refine write_s hg (ht1.ext e) (hc1.ext e) (sep_in hc1 gB.2 rB) (by omega) fun r' w2 f2 g2 hr2 => ?_
  have E2 : Ext w1 w2 := Ext.own e f2 fun k hk => by
    rcases hk with hk | hk
    · omega
    · exact rB k hk
  have h2 := hh.fr f2 (by rintro (h1 | h1); exact hgh h1.symm; exact hhr h1) (fun k hk => by rintro (h1 | h1); exact hgq (h1 ▸ hk); exact hrq k h1 hk)
  refine write_s h2 (ht1.ext E2) (hc1.ext E2) (sep_in hc1 hB.2 qB) (by omega) fun q' w3 f3 h3 hq3 => ?_
  have E3 : Ext w1 w3 := Ext.own E2 f3 fun k hk => by
    rcases hk with hk | hk
    · omega
    · exact qB k hk
  have hgl := hg.var.lt
  have hhl := hh.var.lt
  have g3 := g2.fr f3 (by rintro (h1 | h1); exact hgh h1; exact hgq h1) (fun k hk => by
    have := hr2 k hk
    rintro (h1 | h1)
    · omega
    · have := qlt k h1; omega)
  have d3 := Ext.drew w3
  refine ⟨fun x => Ext w3 x, d3, ?_⟩
  refine sum_s (g3.ext d3) (ht1.ext (E3.trans d3)) (by simp; omega) fun v4 w4 e4 o4 => ?_
  refine more2_i (fun x => Ext w4 x) (Fr.refl _ _) (fun x hx => (d3.trans e4).trans hx) ?_
  refine b2sQ_i (fun x hx => o4.rd.ext hx) ?_
  have E4 := (E3.trans d3).trans e4
  refine sum_s (h3.ext (d3.trans e4)) (ht1.ext E4) (by simp; omega) fun v5 w5 e5 o5 => ?_
  refine more2_i (fun x => Ext w5 x) (Fr.refl _ _) (fun x hx => e5.trans hx) ?_
  refine b2sQ_i (fun x hx => o5.rd.ext hx) ?_
  refine cond_i (fun _ => ?_) (fun h => by rw [eq_str rfl] at h; cases h)
  have E5 := E4.trans e5
  refine sumOf_i (xs := [(p0, bs), (Sl.nil, []), (p1, cs)]) (Fr.refl _ _) (h3.ext ((d3.trans e4).trans e5)) (ht1.ext E5) (by simp; omega) (by simp [flatB]; omega) (by simp) (fun e hQ => three_i (y := Sl.nil) (cs := []) (hb1.ext (E5.trans e)) (Rd.nilSl _ _) (hc1.ext (E5.trans e)) hQ) fun w6 e6 => ?_
  rw [eq_str (by simp [flatB])]
  exact hK w6 (E5.trans e6)

theorem LongSingle_s {p0 p1 : Sl} {bs cs : List UInt8} {K : Bool → World → Prop} {w : World} (hb : Bts w p0 bs) (hc : Bts w p1 cs) (ht : Tabs w) (hK : ∀ w', Ext w w' → K true w') :
    callS Tryd.prog 7 #[.slice p0.a p0.len p0.cap, .slice p1.a p1.len p1.cap] [.one .bool] K w := by
  refine f7_ok ?_
  unfold f7
  have hbl := Bts.len hb
  have hcl := Bts.len hc
  refine anchor2_s ht fun w1 e1 => ?_
  refine cond_i (fun h => by cases h) (fun _ => ?_)
  refine cond_i (fun _ => hK w1 e1) (fun hg => ?_)
  have hle : bs.length ≤ 500 ∧ cs.length ≤ 500 := by simp at hg; omega
  have ht1 := ht.ext e1
  have hb1 := hb.ext e1
  have hc1 := hc.ext e1
  refine new_s ht1 fun g w2 e2 hg2 h2 => ?_
  refine new_s (ht1.ext e2) fun h w3 e3 hg3 h3 => ?_
  have hs2 := e2.size
  have hgl2 := h2.var.lt
  have hgh : g ≠ h := by omega
  have hhl := h3.var.lt
  have nB : ∀ {B k : Nat}, Sl.nil.inB k → B ≤ k := fun hk => absurd hk (Sl.nil_inB _)
  have h3' : HashAt w3 w1.heap.size h Sl.nil [] := ⟨⟨by have := h2.base; omega, by omega⟩, h3.var, Own.nilSl _ _ _, Sl.nil_inB _⟩
  refine loop_i (fun (x : Int) w' => ∃ (n : Nat) (r : Sl), n ≤ bs.length ∧ x = n ∧ Ext w1 w' ∧ w3.heap.size ≤ w'.heap.size ∧ HashAt w' w1.heap.size g r (bs.take n) ∧ HashAt w' w1.heap.size h Sl.nil [] ∧ ¬ r.inB h) (fun x _ => bs.length - x.toNat) ⟨0, Sl.nil, by omega, rfl, e2.trans e3, Nat.le_refl _, h2.ext e3, h3', Sl.nil_inB _⟩ ?_
  rintro x w4 again ⟨n, r, hn, rfl, e4, s4, g4, h4, hrh⟩ hag
  have rB : ∀ k, r.inB k → w1.heap.size ≤ k := fun k hk => (g4.own.inB hk).1
  refine cond_i (fun hlt => ?_) (fun hge => ?_)
  · have hn' : n < bs.length := by simp at hlt; omega
    refine elem_i (l := .int .u8) (x := ((bs[n]'(by omega)).toNat : Int)) (hb1.ext e4) (by omega) (by omega) (by rw [Int.toNat_natCast]; exact bytes_get (by omega)) ?_
    refine buildB_i [bs[n]'(by omega)] rfl rfl (by omega) fun x5 w5 e5 o5 => ?_
    have E5 := e4.trans e5
    have s5 := e5.size
    refine write_s (g4.ext e5) (ht1.ext E5) o5.rd ?_ (by simp; omega) fun r6 w6 f6 g6 hr6 => ?_
    · intro _ a ha hk
      have h7 := (o5.inB ⟨a, ha, rfl⟩).1
      rcases hk with hk | hk
      · omega
      · have := (g4.own.inB hk).2; omega
    have s6 := f6.size
    have hsn : bs.take n ++ [bs[n]'(by omega)] = bs.take (n + 1) := by rw [List.take_succ_eq_append_getElem hn']
    rw [hsn] at g6
    have E6 : Ext w1 w6 := Ext.own E5 f6 fun k hk => by
      rcases hk with hk | hk
      · omega
      · exact rB k hk
    have h6 := (h4.ext e5).fr f6 (by rintro (h1 | h1); exact hgh h1.symm; exact hrh h1) (fun k hk => absurd hk (Sl.nil_inB _))
    have hr6h : ¬ r6.inB h := fun hk => by have := hr6 h hk; omega
    have r6B : ∀ k, r6.inB k → w1.heap.size ≤ k := fun k hk => (g6.own.inB hk).1
    refine cond_i (fun _ => ?_) (fun _ => ?_)
    · refine write_s (p := Sl.nil) (bs := []) g6 (ht1.ext E6) (Rd.nilSl _ _) (fun h => absurd rfl h) (by simp; omega) fun r7 w7 f7 g7 hr7 => ?_
      rw [List.append_nil] at g7
      refine hag _ w7 ⟨n + 1, r7, by omega, ?_, Ext.own E6 f7 fun k hk => ?_, by have := f7.size; omega, g7, h6.fr f7 (by rintro (h1 | h1); exact hgh h1.symm; exact hr6h h1) (fun k hk => absurd hk (Sl.nil_inB _)), fun hk => by have := hr7 h hk; omega⟩ ?_
      · rw [wrap_i64 (by omega) (by omega)]; omega
      · rcases hk with hk | hk
        · omega
        · exact r6B k hk
      · rw [wrap_i64 (by omega) (by omega)]; omega
    · refine hag _ w6 ⟨n + 1, r6, by omega, ?_, E6, by omega, g6, h6, hr6h⟩ ?_
      · rw [wrap_i64 (by omega) (by omega)]; omega
      · rw [wrap_i64 (by omega) (by omega)]; omega
  · have hn' : n = bs.length := by simp at hge; omega
    subst hn'
    rw [List.take_of_length_le (Nat.le_refl _)] at g4
    clear hag hge
    refine write_s h4 (ht1.ext e4) (hb1.ext e4) (sep_in hb1 (by omega) (fun k hk => nB hk)) (by simp; omega) fun q w5 f5 h5 hq5 => ?_
    rw [List.nil_append] at h5
    have rlt : ∀ k, r.inB k → k < w4.heap.size := fun k hk => (g4.own.inB hk).2
    have g5 := g4.fr f5 (by rintro (h1 | h1); exact hgh h1; exact Sl.nil_inB _ h1) (fun k hk => by rintro (h1 | h1); exact hrh (h1 ▸ hk); exact Sl.nil_inB _ h1)
    have E5 : Ext w1 w5 := Ext.own e4 f5 fun k hk => by
      rcases hk with hk | hk
      · omega
      · exact nB hk
    have hgq : ¬ q.inB g := fun hk => by have := hq5 g hk; omega
    have hrq : ∀ k, r.inB k → ¬ q.inB k := fun k hk h1 => by have := hq5 k h1; have := rlt k hk; omega
    have d5 := Ext.drew w5
    refine ⟨fun x => Ext w5 x, d5, ?_⟩
    refine sum_s (g5.ext d5) (ht1.ext (E5.trans d5)) (by omega) fun v6 w6 e6 o6 => ?_
    refine more2_i (fun x => Ext w6 x) (Fr.refl _ _) (fun x hx => (d5.trans e6).trans hx) ?_
    refine b2sQ_i (fun x hx => o6.rd.ext hx) ?_
    have E6 := (E5.trans d5).trans e6
    refine sum_s (h5.ext (d5.trans e6)) (ht1.ext E6) (by omega) fun v7 w7 e7 o7 => ?_
    refine more2_i (fun x => Ext w7 x) (Fr.refl _ _) (fun x hx => e7.trans hx) ?_
    refine b2sQ_i (fun x hx => o7.rd.ext hx) ?_
    refine cond_i (fun h => by rw [eq_str rfl] at h; cases h) (fun _ => ?_)
    have E7 := E6.trans e7
    have e57 := (d5.trans e6).trans e7
    refine sumOf_i (G := fun C x x' w => f7_t1 (!(x.toList == x'.toList)) K (some (at_ g 0)) p1 (some (at_ h 0)) p0 w) (xs := [(p0, bs)]) (Fr.refl _ _) (g5.ext e57) (ht1.ext E7) (by omega) (by simp [flatB]; omega) (by simp) (fun e hQ => one_i (hb1.ext (E7.trans e)) hQ) fun w8 e8 => ?_
    rw [eq_str (by simp [flatB])]
    exact single_t1_s (E7.trans e8) ht1 hb1 hc1 hle.1 hle.2 (g5.ext (e57.trans e8)) (h5.ext (e57.trans e8)) hgh hgq hrh hrq fun w' e => hK w' (e1.trans e)
end Go.Proofs.YtjlmaamhnkhokaaDoor.L
