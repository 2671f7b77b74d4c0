/- Layer 3 (long sums): Sum, in whatever order; Of. -/
import Derived.Test.YtjlmaamhnkhokaaDoorSum03l
set_option linter.unusedSimpArgs false
set_option linter.unusedVariables false
namespace Go.Proofs.YtjlmaamhnkhokaaDoor.L
open Go Go.Eng

theorem ld8Q_i {P : Program} {t g : Nat} [AggTy P t 8] {s : S.Sha.St} {tl : List Value} {C : World → Prop} {K : Int → Int → Int → Int → Int → Int → Int → Int → Prop} (h : ∀ w, C w → Var w g (wl s ++ tl)) (hK : K s.a s.b s.c s.d s.e s.f s.g s.h) :
    semQ P C (Instr.loadAt t (.pointer (some (at_ g 0)))) (.agg l8) K := by
  refine ldVQ_i (n := 8) (ls := l8) 0 h (by simp [S.Sha.St.list]) ?_
  exact hK
theorem sum_s {B gh : Nat} {r : Sl} {all : List UInt8} {K : Sl → World → Prop} {w : World} (h : HashAt w B gh r all) (ht : Tabs w) (hlen : all.length ≤ 1000000000) (hK : ∀ v w', Ext w w' → OwnB w' w.heap.size v (S.L.sh3.sum all) → K v w') :
    callS Tryd.prog 13 #[.pointer (some (at_ gh 0))] [.one .slc] K w := by
  refine f13_ok ?_
  unfold f13
  have tl : ∀ z t w', Ext w w' → EndAt w' w.heap.size z t (S.L.sh3.fold S.L.sh3.first all (all.length / 128)) (all.drop (128 * (all.length / 128)) ++ [128]) → f13_t1 (at_ z 0) (some (at_ gh 0)) K w' :=
    fun z t w' e h' => sumTail_s (cs := wl (S.L.sh3.fold S.L.sh3.first all (all.length / 128))) e ht h.var rfl hlen h' hK
  have hv := h.var
  have hrb : OwnB w B r (all.drop (128 * (all.length / 128))) := h.own
  have hrl : (all.drop (128 * (all.length / 128))).length ≤ 1000000000 := by simp; omega
  generalize S.L.sh3.fold S.L.sh3.first all (all.length / 128) = st at tl hv
  generalize all.drop (128 * (all.length / 128)) = rest at tl hrb hrl
  -- the four operations
  have opC : ∀ {w1 : World} {Q : Sl → World → Prop}, Ext w w1 → (∀ v w2, Ext w1 w2 → OwnB w2 w1.heap.size v rest → Q v w2) → callS Tryd.prog 15 #[.slice r.a r.len r.cap] [.one .slc] Q w1 := fun e hQ => clone_s (hrb.rd.ext e) (by omega) hQ
  have opB : ∀ {w1 : World} {Q : Sl → World → Prop}, (∀ v w2, Ext w1 w2 → OwnB w2 w1.heap.size v [128] → Q v w2) → semS Tryd.prog (Instr.buildSlice 24 1 #[(0, .int .u8 128)]) (.one .slc) Q w1 := fun hQ => buildB_i [128] rfl rfl (by omega) hQ
  have opA : ∀ {w1 : World} {v x : Sl} {Q : Sl → World → Prop}, Ext w w1 → OwnB w1 w.heap.size v rest → Bts w1 x [128] → (∀ t w2, Ext w w2 → Fr v.inB w1 w2 → OwnB w2 w.heap.size t (rest ++ [128]) → (∀ k, t.inB k → v.inB k ∨ w1.heap.size ≤ k) → Q t w2) →
      semS Tryd.prog (Builtin.append_ #[24, 24] 24 #[.slice v.a v.len v.cap, .slice x.a x.len x.cap]) (.one .slc) Q w1 := fun e o b hQ => appendB_i o b (by simp; omega) e.size fun t w2 f2 o2 hin => hQ t w2 (Ext.own e f2 fun i hi => (o.inB hi).1) f2 o2 hin
  have opL : ∀ {w1 : World} {Q : Addr → World → Prop}, (∀ g w2, Ext w1 w2 → w1.heap.size ≤ g → Var w2 g [.int .u64 0, .int .u64 0, .int .u64 0, .int .u64 0, .int .u64 0, .int .u64 0, .int .u64 0, .int .u64 0, .slice none 0 0, .int .u64 0] → Q (at_ g 0) w2) → semS Tryd.prog (Instr.alloc 37 true (.tuple #[])) (.one .adr) Q w1 := fun hQ => by
    refine alloc_i fun g w2 e h v => ?_
    exact hQ g w2 e h v
  have opF : ∀ {w1 : World} {z : Nat} {t : Sl} {cs : List Value}, Ext w w1 → Var w1 z cs → cs.length = 10 → w.heap.size ≤ z → OwnB w1 w.heap.size t (rest ++ [128]) → ¬ t.inB z →
      semU Tryd.prog (Instr.storeAt 37 (.pointer (some (at_ z 0))) (.agg #[.int .u64 st.a, .int .u64 st.b, .int .u64 st.c, .int .u64 st.d, .int .u64 st.e, .int .u64 st.f, .int .u64 st.g, .int .u64 st.h, .slice t.a t.len t.cap, .int .u64 0])) (fun w => f13_t1 (at_ z 0) (some (at_ gh 0)) K w) w1 := by
    intro w1 z t cs e v hc hz o hn
    have h1 : ∀ x ∈ wl st ++ [.slice t.a t.len t.cap, .int .u64 0], x.oneCell' = true := by
      intro x hx
      simp only [wl, S.Sha.St.list, List.map_cons, List.map_nil, List.cons_append, List.nil_append, List.mem_cons, List.not_mem_nil, or_false] at hx
      rcases hx with rfl | rfl | rfl | rfl | rfl | rfl | rfl | rfl | rfl | rfl <;> rfl
    refine stV_i (P := Tryd.prog) (t := 37) (n := 10) (vs := wl st ++ [.slice t.a t.len t.cap, .int .u64 0]) 0 v rfl (by omega) h1 fun w2 f2 v2 => ?_
    · refine tl z t w2 (Fr.own1 e f2 hz) ⟨hz, ?_, o.fr f2 fun a ha hk => hn ⟨a, ha, hk⟩, hn⟩
      simpa [List.drop_of_length_le (show cs.length ≤ 10 by omega)] using v2
  have e0 : Ext w w.drew := Ext.drew w
  refine ⟨fun x => Ext w x, e0, ?_⟩
  refine nil_i rfl ?_
  refine ld8Q_i (s := st) (fun x hx => hv.ext hx) ?_
  refine nil_i rfl ?_
  refine ld1Q_i (l := .slc) (o := 8) r (fun x hx => hv.ext hx) rfl ?_
  have sz : ∀ {a b : World}, Ext a b → a.heap.size ≤ b.heap.size := fun e => e.size
  refine ⟨?_, ?_, ?_⟩
  · refine opC e0 fun v w1 e1 oc => ?_
    have s1 := sz e1
    have E1 := (e0).trans e1
    have oc := oc.base (sz e0)
    refine more_i E1 ?_
    refine ⟨?_, ?_⟩
    · refine opB fun x w2 e2 ob => ?_
      have s2 := sz e2
      have E2 := (E1).trans e2
      refine more_i E2 ?_
      have oc := oc.ext e2
      refine ⟨?_, ?_⟩
      · refine opA E2 oc ob.rd fun t w3 E3 fa oa hin => ?_
        refine more_i E3 ?_
        refine opL fun z w4 e4 hz vz => ?_
        have hzl := vz.lt
        have E4 := (E3).trans e4
        have hz0 := Nat.le_trans (sz E3) hz
        refine more_i E4 ?_
        have hn : ¬ t.inB z := fun hk => by have := (oa.inB hk).2; omega
        have oa := oa.ext e4
        exact opF E4 vz rfl hz0 oa hn
      · refine opL fun z w3 e3 hz vz => ?_
        have hzl := vz.lt
        have E3 := (E2).trans e3
        have hz0 := Nat.le_trans (sz E2) hz
        refine more_i E3 ?_
        have hvz : ¬ v.inB z := fun hk => by have := (oc.inB hk).2; omega
        have oc := oc.ext e3
        have ob := ob.ext e3
        refine opA E3 oc ob.rd fun t w4 E4 fa oa hin => ?_
        refine more_i E4 ?_
        have hn : ¬ t.inB z := fun hk => by
          rcases hin z hk with h1 | h1
          · exact hvz h1
          · have := vz.lt; omega
        have vz := vz.fr fa hvz
        exact opF E4 vz rfl hz0 oa hn
    · refine opL fun z w2 e2 hz vz => ?_
      have hzl := vz.lt
      have E2 := (E1).trans e2
      have hz0 := Nat.le_trans (sz E1) hz
      refine more_i E2 ?_
      have hvz : ¬ v.inB z := fun hk => by have := (oc.inB hk).2; omega
      have oc := oc.ext e2
      refine opB fun x w3 e3 ob => ?_
      have s3 := sz e3
      have E3 := (E2).trans e3
      refine more_i E3 ?_
      have oc := oc.ext e3
      have vz := vz.ext e3
      refine opA E3 oc ob.rd fun t w4 E4 fa oa hin => ?_
      refine more_i E4 ?_
      have hn : ¬ t.inB z := fun hk => by
        rcases hin z hk with h1 | h1
        · exact hvz h1
        · have := vz.lt; omega
      have vz := vz.fr fa hvz
      exact opF E4 vz rfl hz0 oa hn
  · refine opB fun x w1 e1 ob => ?_
    have s1 := sz e1
    have E1 := (e0).trans e1
    refine more_i E1 ?_
    refine ⟨?_, ?_⟩
    · refine opC E1 fun v w2 e2 oc => ?_
      have s2 := sz e2
      have E2 := (E1).trans e2
      have oc := oc.base (sz E1)
      refine more_i E2 ?_
      have ob := ob.ext e2
      refine ⟨?_, ?_⟩
      · refine opA E2 oc ob.rd fun t w3 E3 fa oa hin => ?_
        refine more_i E3 ?_
        refine opL fun z w4 e4 hz vz => ?_
        have hzl := vz.lt
        have E4 := (E3).trans e4
        have hz0 := Nat.le_trans (sz E3) hz
        refine more_i E4 ?_
        have hn : ¬ t.inB z := fun hk => by have := (oa.inB hk).2; omega
        have oa := oa.ext e4
        exact opF E4 vz rfl hz0 oa hn
      · refine opL fun z w3 e3 hz vz => ?_
        have hzl := vz.lt
        have E3 := (E2).trans e3
        have hz0 := Nat.le_trans (sz E2) hz
        refine more_i E3 ?_
        have hvz : ¬ v.inB z := fun hk => by have := (oc.inB hk).2; omega
        have ob := ob.ext e3
        have oc := oc.ext e3
        refine opA E3 oc ob.rd fun t w4 E4 fa oa hin => ?_
        refine more_i E4 ?_
        have hn : ¬ t.inB z := fun hk => by
          rcases hin z hk with h1 | h1
          · exact hvz h1
          · have := vz.lt; omega
        have vz := vz.fr fa hvz
        exact opF E4 vz rfl hz0 oa hn
    · refine opL fun z w2 e2 hz vz => ?_
      have hzl := vz.lt
      have E2 := (E1).trans e2
      have hz0 := Nat.le_trans (sz E1) hz
      refine more_i E2 ?_
      have ob := ob.ext e2
      refine opC E2 fun v w3 e3 oc => ?_
      have s3 := sz e3
      have E3 := (E2).trans e3
      have oc0 := oc
      have oc := oc.base (sz E2)
      refine more_i E3 ?_
      have ob := ob.ext e3
      have vz := vz.ext e3
      refine opA E3 oc ob.rd fun t w4 E4 fa oa hin => ?_
      refine more_i E4 ?_
      have hvz : ¬ v.inB z := fun hk => by have := (oc0.inB hk).1; omega
      have hn : ¬ t.inB z := fun hk => by
        rcases hin z hk with h1 | h1
        · exact hvz h1
        · have := vz.lt; omega
      have vz := vz.fr fa hvz
      exact opF E4 vz rfl hz0 oa hn
  · refine opL fun z w1 e1 hz vz => ?_
    have hzl := vz.lt
    have E1 := (e0).trans e1
    have hz0 := Nat.le_trans (sz e0) hz
    refine more_i E1 ?_
    refine ⟨?_, ?_⟩
    · refine opC E1 fun v w2 e2 oc => ?_
      have s2 := sz e2
      have E2 := (E1).trans e2
      have oc0 := oc
      have oc := oc.base (sz E1)
      refine more_i E2 ?_
      have vz := vz.ext e2
      refine opB fun x w3 e3 ob => ?_
      have s3 := sz e3
      have E3 := (E2).trans e3
      refine more_i E3 ?_
      have vz := vz.ext e3
      have oc := oc.ext e3
      refine opA E3 oc ob.rd fun t w4 E4 fa oa hin => ?_
      refine more_i E4 ?_
      have hvz : ¬ v.inB z := fun hk => by have := (oc0.inB hk).1; omega
      have hn : ¬ t.inB z := fun hk => by
        rcases hin z hk with h1 | h1
        · exact hvz h1
        · have := vz.lt; omega
      have vz := vz.fr fa hvz
      exact opF E4 vz rfl hz0 oa hn
    · refine opB fun x w2 e2 ob => ?_
      have s2 := sz e2
      have E2 := (E1).trans e2
      refine more_i E2 ?_
      have vz := vz.ext e2
      refine opC E2 fun v w3 e3 oc => ?_
      have s3 := sz e3
      have E3 := (E2).trans e3
      have oc0 := oc
      have oc := oc.base (sz E2)
      refine more_i E3 ?_
      have vz := vz.ext e3
      have ob := ob.ext e3
      refine opA E3 oc ob.rd fun t w4 E4 fa oa hin => ?_
      refine more_i E4 ?_
      have hvz : ¬ v.inB z := fun hk => by have := (oc0.inB hk).1; omega
      have hn : ¬ t.inB z := fun hk => by
        rcases hin z hk with h1 | h1
        · exact hvz h1
        · have := vz.lt; omega
      have vz := vz.fr fa hvz
      exact opF E4 vz rfl hz0 oa hn
end Go.Proofs.YtjlmaamhnkhokaaDoor.L
