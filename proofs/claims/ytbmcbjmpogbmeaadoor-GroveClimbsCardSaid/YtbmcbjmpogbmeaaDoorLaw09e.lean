/- Layer 9 (grove): the blocks on a path, as the laws list them. -/
import Derived.Test.YtbmcbjmpogbmeaaDoorLaw09b
import Derived.Test.YtbmcbjmpogbmeaaDoorPure09b
import Derived.Test.YtbmcbjmpogbmeaaDoorGrv09e
set_option linter.unusedSimpArgs false
set_option linter.unusedVariables false
namespace Go.Proofs.YtbmcbjmpogbmeaaDoor
open Go Go.Eng
/-- A list of texts whose row is one's own and apart from the texts. -/
structure OwnP (w : World) (B : Nat) (s : Sl) (xs : List (Sl × List UInt8)) : Prop where
  own : Own w B s 1 (xs.map fun x => slV x.1)
  each : ∀ x ∈ xs, Bts w x.1 x.2
  apart : ∀ x ∈ xs, ∀ k, x.1.inB k → (B ≤ k ∧ k < w.heap.size) ∧ ¬ s.inB k
theorem OwnP.parts {w : World} {B : Nat} {s : Sl} {xs : List (Sl × List UInt8)} (h : OwnP w B s xs) : Parts w s xs := ⟨h.own.rd, h.each⟩
theorem OwnP.ext {w w' : World} {B : Nat} {s : Sl} {xs : List (Sl × List UInt8)} (h : OwnP w B s xs) (e : Ext w w') : OwnP w' B s xs :=
  ⟨Own.ext h.own e, fun x hx => (h.each x hx).ext e, fun x hx k hk => ⟨⟨(h.apart x hx k hk).1.1, Nat.lt_of_lt_of_le (h.apart x hx k hk).1.2 e.size⟩, (h.apart x hx k hk).2⟩⟩
theorem OwnP.base {w : World} {B B' : Nat} {s : Sl} {xs : List (Sl × List UInt8)} (h : OwnP w B' s xs) (hB : B ≤ B') : OwnP w B s xs := ⟨Own.base h.own hB, h.each, fun x hx k hk => ⟨⟨Nat.le_trans hB (h.apart x hx k hk).1.1, (h.apart x hx k hk).1.2⟩, (h.apart x hx k hk).2⟩⟩
theorem OwnP.nil (w : World) (B : Nat) : OwnP w B Sl.nil [] := ⟨Own.nilSl _ _ _, (fun x hx => by cases hx), (fun x hx => by cases hx)⟩
theorem appendP_i {P : Program} {t e : Nat} {z : Value} [SliceTy P t e 1 z] {w : World} {B : Nat} {s r : Sl} {xs : List (Sl × List UInt8)} {bs : List UInt8} {K : Sl → World → Prop} (h : OwnP w B s xs) (hr : Bts w r bs) (hra : ∀ k, r.inB k → (B ≤ k ∧ k < w.heap.size) ∧ ¬ s.inB k) (hlen : xs.length ≤ 1000000) (hB : B ≤ w.heap.size)
    (hK : ∀ v w', Fr s.inB w w' → OwnP w' B v (xs ++ [(r, bs)]) → K v w') :
    semS P (Instr.buildSlice t 1 #[(0, .slice r.a r.len r.cap)]) (.one .slc) (fun x w => semS P (Builtin.append_ #[t, t] t #[.slice s.a s.len s.cap, .slice x.a x.len x.cap]) (.one .slc) K w) w := by
  have hl := h.parts.len
  refine append1V_i (slV r) rfl rfl h.own (by omega) hB fun v w' f o hin => hK v w' f ⟨?_, fun x hx => ?_, fun x hx k hk => ?_⟩
  · rw [List.map_append]; exact o
  · rcases List.mem_append.1 hx with hx | hx
    · exact (h.each x hx).fr f fun a ha hk => (h.apart x hx _ ⟨a, ha, rfl⟩).2 hk
    · rw [List.mem_singleton.1 hx]; exact hr.fr f fun a ha hk => (hra _ ⟨a, ha, rfl⟩).2 hk
  · have hs := f.size
    have hk' : (B ≤ k ∧ k < w.heap.size) ∧ ¬ s.inB k := by
      rcases List.mem_append.1 hx with hx | hx
      · exact h.apart x hx k hk
      · rw [List.mem_singleton.1 hx] at hk; exact hra k hk
    refine ⟨by omega, fun hv => ?_⟩
    rcases hin k hv with h | h
    · exact hk'.2 h
    · omega
theorem ldPl_i {P : Program} {t g : Nat} {w : World} [AggTy P t 2] {i l : Nat} {K : Int → Int → World → Prop} (hv : Var w g (plC i l)) (hK : K (i : Int) (l : Int) w) :
    semS P (Instr.loadAt t (.pointer (some (at_ g 0)))) (.agg [(.int .i64), (.int .i64)]) K w :=
  ldV_i (n := 2) (ls := [.int .i64, .int .i64]) 0 hv (Nat.le_refl 2) hK
theorem stPl_i {P : Program} {t g : Nat} {w : World} [AggTy P t 2] {cs : List Value} {i l : Nat} {K : World → Prop} (hv : Var w g cs) (hl : cs.length = 2) (hK : ∀ w', Fr (fun k => k = g) w w' → Var w' g (plC i l) → K w') :
    semU P (Instr.storeAt t (.pointer (some (at_ g 0))) (.agg #[.int .i64 (i : Int), .int .i64 (l : Int)])) K w :=
  stV_i (n := 2) (vs := plC i l) 0 hv rfl (by omega) (fun v hv => by simp only [plC, List.mem_cons, List.not_mem_nil, or_false] at hv; rcases hv with rfl | rfl <;> rfl) fun w' h1 h2 => hK w' h1 (by simpa [List.drop_of_length_le (Nat.le_of_eq hl)] using h2)
theorem blocks_s {y : SM} {x : S.Shp} {i : Nat} {K : Sl → World → Prop} {w : World} (hy : y.Ok w) (hx : x = y.shp) (hr : y.right = true) (hd : y.data.2.length ≤ 100000) (hi : i < x.c 0)
    (hK : ∀ v xs w', Ext w w' → OwnP w' w.heap.size v xs → xs.map (·.2) = x.onPath y.H y.data.2 i → K v w') :
    callS Tryd.prog 23 #[.agg #[.int .i64 y.alg, .int .i64 y.blk, .slice y.salt.1.a y.salt.1.len y.salt.1.cap, .slice y.data.1.a y.data.1.len y.data.1.cap], .agg #[.int .i64 x.s, .int .i64 x.b, .int .i64 x.d], .int .i64 (i : Int)] [.one .slc] K w := by
  refine f23_ok ?_
  unfold f23
  obtain ⟨q1, q2⟩ := SM.right_of hr
  rw [← hx] at q1
  have o := S.Shp.ok_of q1
  have hxd : S.dsz y.alg = x.d := by rw [hx]; rfl
  have hh := S.Shp.h_le o
  have ha1 := o.a1
  have hcm := S.Shp.c_max o 0
  refine box_i fun g1 w1 e1 hg1 v1 => ?_
  have v1 : Var w1 g1 y.cells := v1
  refine box_i fun g2 w2 e2 hg2 v2 => ?_
  have v2 : Var w2 g2 (shC x) := v2
  have v1 := v1.ext e2
  have E2 := e1.trans e2
  refine alloc_i fun g3 w3 e3 hg3 v3 => ?_
  refine stPl_i (i := i) (l := 0) v3 rfl fun w4 f4 v4 => ?_
  have e4 : Ext w2 w4 := Fr.own1 e3 f4 hg3
  refine ldSh_i (v2.ext e4) ?_
  refine rCounts_s o fun cv w5 e5 o5 => ?_
  have o5l := o5.len
  rw [List.length_map, S.Shp.cs_len, Nat.mul_one] at o5l
  have e25 := e4.trans e5
  have h5 := e25.size
  have hg35 := (v4.ext e5).lt
  refine loop_i (fun (st : Sl × Int) w' => ∃ (k : Nat) (xs : List (Sl × List UInt8)), st.2 = k ∧ k ≤ x.h + 1 ∧ Ext w2 w' ∧ w5.heap.size ≤ w'.heap.size ∧ Var w' g3 (plC (i / x.aN ^ k) k) ∧ OwnP w' w5.heap.size st.1 xs ∧ xs.map (·.2) = (List.range k).map fun k => x.blk y.H y.data.2 k (i / x.aN ^ k)) (fun st _ => x.h + 1 - st.2.toNat)
    ⟨0, [], rfl, by omega, e25, Nat.le_refl _, by simpa using v4.ext e5, OwnP.nil _ _, rfl⟩ ?_
  rintro ⟨s, k'⟩ w6 again ⟨k, xs, hk', hk, e6, hs6, v6, o6, hxs⟩ hag
  dsimp only at hk' o6 ⊢
  subst hk'
  have hxl : xs.length = k := by have := congrArg List.length hxs; simpa using this
  refine cond_i (fun hlt => ?_) (fun hge => ?_)
  · have hlt : k < x.h + 1 := by have : (k : Int) < (cv.len : Int) := of_decide_eq_true hlt
                                 omega
    have v16 := v1.ext e6
    refine ld1_i (l := .int .i64) (o := 0) y.alg v16 rfl (ld1_i (l := .slc) (o := 2) y.salt.1 v16 rfl (ldSh_i (v2.ext e6) (ld1_i (l := .slc) (o := 3) y.data.1 v16 rfl (ldPl_i v6 ?_))))
    have hpin := path_in o hi k
    have hcmk := S.Shp.c_max o k
    have hy6 := hy.ext (E2.trans e6)
    refine rBlock_s o hxd hd (by omega) k (i / x.aN ^ k) hy6.salt hy6.data (by omega) (by omega) fun r w7 e7 o7 => ?_
    have o67 := o6.ext e7
    have hr7 : ∀ q, r.inB q → w6.heap.size ≤ q ∧ q < w7.heap.size := fun q hq => o7.inB hq
    have hs7 := e7.size
    refine appendP_i o67 o7.rd (fun q hq => ⟨⟨by have := (hr7 q hq).1; omega, (hr7 q hq).2⟩, fun hs => by have := (o6.own.inB hs).2; have := (hr7 q hq).1; omega⟩) (by omega) (by omega) fun v w8 f8 o8 => ?_
    have hsb : ∀ q, s.inB q → w5.heap.size ≤ q := fun q hq => (o6.own.inB hq).1
    have e68 : Ext w2 w8 := Ext.own (e6.trans e7) f8 fun q hq => by have := hsb q hq; omega
    have v8 : Var w8 g3 (plC (i / x.aN ^ k) k) := (v6.ext e7).fr f8 fun hq => by have := hsb _ hq; omega
    refine ldSh_i (v2.ext e68) (ldPl_i v8 ?_)
    refine rAbove_s o (by omega) (by omega) fun w9 e9 => ?_
    refine stPl_i (v8.ext e9) rfl fun w10 f10 v10 => ?_
    have h8 := f8.size
    have h9 := e9.size
    have h10 := f10.size
    have o10 : OwnP w10 w5.heap.size v (xs ++ [(r, x.blk y.H y.data.2 k (i / x.aN ^ k))]) := by
      have o9 := o8.ext e9
      refine ⟨o9.own.fr f10 fun a ha hq => ?_, fun z hz => (o9.each z hz).fr f10 fun a ha hq => ?_, fun z hz q hq => ⟨⟨(o9.apart z hz q hq).1.1, Nat.lt_of_lt_of_le (o9.apart z hz q hq).1.2 h10⟩, (o9.apart z hz q hq).2⟩⟩
      · have := (o9.own.inB ⟨a, ha, rfl⟩).1; omega
      · have := (o9.apart z hz _ ⟨a, ha, rfl⟩).1.1; omega
    have hkk : IntKind.wrap .i64 ((k : Int) + 1) = ((k + 1 : Nat) : Int) := wrap_nat (n := k + 1) (by omega)
    rw [hkk]
    refine hag _ w10 ⟨k + 1, _, rfl, by omega, Fr.own1 (e68.trans e9) f10 hg3, by omega, ?_, o10, ?_⟩ (by dsimp only; omega)
    · rw [div_pow_succ]; exact v10
    · rw [List.map_append, hxs, List.range_succ, List.map_append]; rfl
  · have hge : k = x.h + 1 := by have : ¬ (k : Int) < (cv.len : Int) := of_decide_eq_false hge
                                 omega
    subst hge
    have := E2.size
    exact hK s xs w6 (E2.trans e6) (o6.base (by omega)) hxs
end Go.Proofs.YtbmcbjmpogbmeaaDoor
