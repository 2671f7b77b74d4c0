/- Layer 3 (long sums): the laws LongOwn and LongEdges. -/
import Derived.Test.YtjlmaamhnkhokaaDoorLaw03a
set_option linter.unusedSimpArgs false
set_option linter.unusedVariables false
namespace Go.Proofs.YtjlmaamhnkhokaaDoor.L
open Go Go.Eng

/-- 'string(h.Sum())' beside 'string(longsum.Of(..))', in either order. -/
theorem sumOf_i {w0 w : World} {B g : Nat} {r : Sl} {all : List UInt8} {xs : List (Sl × List UInt8)} {bld : Sem Value} {G : (World → Prop) → ByteArray → ByteArray → World → Prop} (e : Ext w0 w) (h : HashAt w B g r all) (ht : Tabs w) (hl : all.length ≤ 1000000000) (hx : (flatB xs).length ≤ 1000000000) (hxl : xs.length ≤ 1000000000)
    (hb : ∀ {w1 : World} {Q : Sl → World → Prop}, Ext w w1 → (∀ v w2, Ext w1 w2 → Parts w2 v xs → Q v w2) → semS Tryd.prog bld (.one .slc) Q w1)
    (hG : ∀ w', Ext w w' → G (fun x => Ext w' x) (str (S.L.sh3.sum all)) (str (S.L.sh3.sum (flatB xs))) w') :
    (callS Tryd.prog 13 #[.pointer (some (at_ g 0))] [.one .slc] (fun r w => moreS (fun x => Ext w0 x) w fun C => semQ Tryd.prog C (convert 24 9 (.slice r.a r.len r.cap)) (.one .str) fun x =>
      semS Tryd.prog bld (.one .slc) (fun y w => moreS C w fun C => callS Tryd.prog 12 #[.slice y.a y.len y.cap] [.one .slc] (fun r' w => moreS C w fun C => semQ Tryd.prog C (convert 24 9 (.slice r'.a r'.len r'.cap)) (.one .str) fun x' => G C x x' w) w) w) w) ∧
    (semS Tryd.prog bld (.one .slc) (fun y w => moreS (fun x => Ext w0 x) w fun C => callS Tryd.prog 13 #[.pointer (some (at_ g 0))] [.one .slc] (fun r w => moreS C w fun C => semQ Tryd.prog C (convert 24 9 (.slice r.a r.len r.cap)) (.one .str) fun x =>
      callS Tryd.prog 12 #[.slice y.a y.len y.cap] [.one .slc] (fun r' w => moreS C w fun C => semQ Tryd.prog C (convert 24 9 (.slice r'.a r'.len r'.cap)) (.one .str) fun x' => G C x x' w) w) w) w) := by
  constructor
  · refine sum_s h ht hl fun v w1 e1 o1 => ?_
    refine more2_i (fun x => Ext w1 x) (Fr.refl _ _) (fun x hx => (e.trans e1).trans hx) ?_
    refine b2sQ_i (fun x hx => o1.rd.ext hx) ?_
    refine hb e1 fun y w2 e2 p2 => ?_
    refine more2_i (fun x => Ext w2 x) (Fr.refl _ _) (fun x hx => e2.trans hx) ?_
    refine of_s p2 (ht.ext (e1.trans e2)) hx hxl fun u w3 e3 o3 => ?_
    refine more2_i (fun x => Ext w3 x) (Fr.refl _ _) (fun x hx => e3.trans hx) ?_
    refine b2sQ_i (fun x hx => o3.rd.ext hx) ?_
    exact hG w3 ((e1.trans e2).trans e3)
  · refine hb (Fr.refl _ _) fun y w1 e1 p1 => ?_
    refine more2_i (fun x => Ext w1 x) (Fr.refl _ _) (fun x hx => (e.trans e1).trans hx) ?_
    refine sum_s (h.ext e1) (ht.ext e1) hl fun v w2 e2 o2 => ?_
    refine more2_i (fun x => Ext w2 x) (Fr.refl _ _) (fun x hx => e2.trans hx) ?_
    refine b2sQ_i (fun x hx => o2.rd.ext hx) ?_
    refine of_s (p1.ext e2) (ht.ext (e1.trans e2)) hx hxl fun u w3 e3 o3 => ?_
    refine more2_i (fun x => Ext w3 x) (Fr.refl _ _) (fun x hx => e3.trans hx) ?_
    refine b2sQ_i (fun x hx => o3.rd.ext hx) ?_
    exact hG w3 ((e1.trans e2).trans e3)

/-- A loop that writes over a slice of one's own, byte by byte. -/
theorem LongOwn_s {p0 p1 : Sl} {cs bs : List UInt8} {K : Bool → World → Prop} {w : World} (ha : Bts w p0 cs) (hb : Bts w p1 bs) (ht : Tabs w) (hK : ∀ w', Ext w w' → K true w') :
    callS Tryd.prog 6 #[.slice p0.a p0.len p0.cap, .slice p1.a p1.len p1.cap] [.one .bool] K w := by
  refine f6_ok ?_
  unfold f6
  have hal := Bts.len ha
  have hbl := Bts.len hb
  refine anchor2_s ht fun w1 e1 => ?_
  refine cond_i (fun h => by cases h) (fun _ => ?_)
  refine cond_i (fun _ => hK w1 e1) (fun hg => ?_)
  have hle : cs.length ≤ 1000 ∧ bs.length ≤ 1000 := by simp at hg; omega
  have ht1 := ht.ext e1
  have ha1 := ha.ext e1
  have hb1 := hb.ext e1
  refine new_s ht1 fun g w2 e2 hg2 h2 => ?_
  refine new_s (ht1.ext e2) fun h w3 e3 hg3 h3 => ?_
  have hs2 := e2.size
  have hgl2 := h2.var.lt
  have hgh : g ≠ h := by omega
  refine copyV_i (ha1.ext (e2.trans e3)) bytes_one (by omega) fun x w4 e4 o4 => ?_
  have o4 : OwnB w4 w3.heap.size x cs := o4
  have e24 := e3.trans e4
  have E4 := e2.trans e24
  have g4 := h2.ext e24
  have h4 := h3.ext e4
  have hhl3 := h3.var.lt
  have hs3 := e3.size
  refine write_s g4 (ht1.ext E4) o4.rd ?_ (by simp; omega) fun r5 w5 f5 g5 hr5 => ?_
  · intro hne a ha hk
    have := (o4.inB ⟨a, ha, rfl⟩).1
    rcases hk with hk | hk
    · omega
    · exact Sl.nil_inB _ hk
  rw [List.nil_append] at g5
  have hx5 : ∀ k, x.inB k → ¬ (k = g ∨ Sl.nil.inB k) := fun k hk h1 => by
    have := (o4.inB hk).1
    rcases h1 with h1 | h1
    · omega
    · exact Sl.nil_inB _ h1
  have o5 : OwnB w5 w3.heap.size x cs := o4.fr f5 fun a ha => hx5 _ ⟨a, ha, rfl⟩
  have h5 := h4.fr f5 (by rintro (h1 | h1); exact hgh h1.symm; exact Sl.nil_inB _ h1) (fun k hk => absurd hk (Sl.nil_inB k))
  have E5 : Ext w1 w5 := Ext.own E4 f5 fun k hk => by
    rcases hk with hk | hk
    · omega
    · exact absurd hk (Sl.nil_inB _)
  have hxg : ∀ k, x.inB k → k ≠ g ∧ k ≠ h ∧ ¬ r5.inB k := fun k hk => by
    have h1 := (o4.inB hk).1
    have h2 := (o4.inB hk).2
    exact ⟨by omega, by omega, fun h3 => by have := hr5 k h3; omega⟩
  clear g4 h4 h2 h3 o4 f5
  refine loop_i (fun (i : Int) w' => ∃ (n : Nat) (ys : List UInt8), n ≤ x.len ∧ i = n ∧ Fr x.inB w5 w' ∧ OwnB w' w3.heap.size x ys) (fun i _ => x.len - i.toNat) ⟨0, cs, by omega, rfl, Fr.refl _ _, o5⟩ ?_
  rintro i w6 again ⟨n, ys, hn, rfl, f6, o6⟩ hag
  have hyl := OwnB.len o6
  refine cond_i (fun hlt => ?_) (fun hge => ?_)
  · have hn' : n < x.len := by simp at hlt; omega
    refine elem_i (l := .int .u8) (x := ((ys[n]'(by omega)).toNat : Int)) o6.rd (by omega) (by omega) (by rw [Int.toNat_natCast]; exact bytes_get (by omega)) ?_
    refine put1_i (u8 (xorI .u8 ((ys[n]'(by omega)).toNat : Int) 255)) o6 (by omega) (by omega) ?_ fun w7 f7 o7 => ?_
    · rw [u8_toNat]
      · unfold xorI; rw [wrap_u8_mod]; omega
      · unfold xorI; rw [wrap_u8_mod]; omega
    · refine hag _ w7 ⟨n + 1, _, by omega, ?_, f6.trans' f7, o7⟩ ?_
      · rw [wrap_i64 (by have := OwnB.len o5; omega) (by have := OwnB.len o5; omega)]; omega
      · rw [wrap_i64 (by have := OwnB.len o5; omega) (by have := OwnB.len o5; omega)]; omega
  · clear hag
    have g6 := g5.fr f6 (fun hk => (hxg g hk).1 rfl) (fun k hk hx => (hxg k hx).2.2 hk)
    have h6 := h5.fr f6 (fun hk => (hxg h hk).2.1 rfl) (fun k hk hx => absurd hk (Sl.nil_inB _))
    have E6 : Ext w1 w6 := Ext.own E5 f6 fun k hk => by have := (o5.inB hk).1; omega
    have sep : ∀ {c : List UInt8} {q : Sl}, Bts w1 q c → ∀ {gg : Nat} {rr : Sl}, w1.heap.size ≤ gg → (∀ k, rr.inB k → w1.heap.size ≤ k) → c ≠ [] → ∀ a, q.a = some a → ¬ (a.block = gg ∨ rr.inB a.block) := by
      intro c q hq gg rr h1 h2 hne a ha hk
      have := rd_lt hq (by simpa using hne) ha
      rcases hk with hk | hk
      · omega
      · have := h2 _ hk; omega
    have hr5' : ∀ k, r5.inB k → w1.heap.size ≤ k := fun k hk => (g5.own.inB hk).1
    refine write_s h6 (ht1.ext E6) (hb1.ext E6) (sep hb1 (by omega) (fun k hk => absurd hk (Sl.nil_inB _))) (by simp; omega) fun r7 w7 f7 h7 hr7 => ?_
    rw [List.nil_append] at h7
    have g7 := g6.fr f7 (by rintro (h1 | h1); exact hgh h1; exact Sl.nil_inB _ h1) (fun k hk => by
      rintro (h1 | h1)
      · have := hr5 k hk; have := e4.size; omega
      · exact Sl.nil_inB _ h1)
    have E7 : Ext w1 w7 := Ext.own E6 f7 fun k hk => by
      rcases hk with hk | hk
      · omega
      · exact absurd hk (Sl.nil_inB _)
    refine write_s g7 (ht1.ext E7) (hb1.ext E7) (sep hb1 (by omega) hr5') (by omega) fun r8 w8 f8 g8 hr8 => ?_
    have hr56 : ∀ k, r5.inB k → k < w6.heap.size := fun k hk => (g6.own.inB hk).2
    have h8 := h7.fr f8 (by
      rintro (h1 | h1)
      · exact hgh h1.symm
      · have := hr5 h h1; have := e4.size; omega) (fun k hk => by
      have := hr7 k hk
      have := h6.var.lt
      rintro (h1 | h1)
      · have := g6.var.lt; omega
      · have := hr56 k h1; omega)
    have E8 : Ext w1 w8 := Ext.own E7 f8 fun k hk => by
      rcases hk with hk | hk
      · omega
      · exact hr5' k hk
    refine ⟨fun x => Ext w8 x, Ext.drew _, ?_⟩
    have d8 := Ext.drew w8
    refine sumOf_i (xs := [(p0, cs), (p1, bs)]) d8 (g8.ext d8) (ht1.ext (E8.trans d8)) (by simp; omega) (by simp [flatB]; omega) (by simp) (fun e hQ => two_i (ha1.ext ((E8.trans d8).trans e)) (hb1.ext ((E8.trans d8).trans e)) hQ) fun w9 e9 => ?_
    refine cond_i (fun _ => ?_) (fun h => by rw [eq_str (by simp [flatB])] at h; cases h)
    have E9 := (E8.trans d8).trans e9
    refine sumOf_i (xs := [(p1, bs)]) (Fr.refl _ _) (h8.ext (d8.trans e9)) (ht1.ext E9) (by omega) (by simp [flatB]; omega) (by simp) (fun e hQ => one_i (hb1.ext (E9.trans e)) hQ) fun w10 e10 => ?_
    rw [eq_str (by simp [flatB])]
    exact hK w10 (e1.trans (E9.trans e10))
end Go.Proofs.YtjlmaamhnkhokaaDoor.L
