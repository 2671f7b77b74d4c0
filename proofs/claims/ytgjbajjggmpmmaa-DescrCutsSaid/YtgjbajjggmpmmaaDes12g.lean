/- Layer 12 (descr): lists of descriptors copied and compared. -/
import Derived.Test.YtgjbajjggmpmmaaDes12f
set_option linter.unusedSimpArgs false
set_option linter.unusedVariables false
namespace Go.Proofs.Ytgjbajjggmpmmaa
open Go Go.Eng
/-- 'append(l, d)' -/
theorem append1D_i {t e : Nat} {z : Value} [SliceTy Try.prog t e 11 z] {d : DM} {s : Sl} {ds : List DM} {B : Nat} {K : Sl → World → Prop} {w : World} (ho : Own w B s 11 (ds.map DM.cells).flatten) (hlen : s.len ≤ 100000) (hB : B ≤ w.heap.size)
    (hf : Instr.fill (fun i => some (i * 11, 11)) ((Array.range (1 * 11)).map (fun i => (if 1 * 11 = 0 then #[] else z.cells)[i % (if 1 * 11 = 0 then #[] else z.cells).size]!)) [(0, Value.agg d.cells.toArray)] = some d.cells.toArray)
    (hK : ∀ v w', Fr s.inB w w' → Own w' B v 11 ((ds ++ [d]).map DM.cells).flatten → v.len = s.len + 1 → (∀ k, v.inB k → s.inB k ∨ w.heap.size ≤ k) → K v w') :
    semS Try.prog (Instr.buildSlice t 1 #[(0, .agg d.cells.toArray)]) (.one .slc) (fun x w => semS Try.prog (Builtin.append_ #[t, t] t #[.slice s.a s.len s.cap, .slice x.a x.len x.cap]) (.one .slc) K w) w := by
  refine buildSlice_i (sz := 11) d.cells.toArray hf rfl (by omega) fun x w1 e1 o1 hl => ?_
  refine append_i (Own.ext ho e1) o1.rd d.one (by omega) (by have := e1.size; omega) fun v w2 f2 o2 hl2 hin => ?_
  refine hK v w2 (Fr.trans (Ext.fr e1) f2 (fun _ _ h => h)) ?_ (by omega) fun k hk => ?_
  · rw [List.map_append, List.flatten_append, List.map_cons, List.map_nil, List.flatten_cons, List.flatten_nil, List.append_nil]; exact o2
  · rcases hin k hk with h | h
    · exact .inl h
    · have := e1.size; exact .inr (by omega)
theorem DsIn.of_own {w : World} {B : Nat} {s : Sl} {ds : List DM} (o : Own w B s 11 (ds.map DM.cells).flatten) (ok : ∀ d ∈ ds, d.Ok w) : DsIn w s ds := by
  refine ⟨⟨o.rd, ?_, fun c hc => by obtain ⟨p, _, rfl⟩ := List.mem_map.1 hc; rfl⟩, ok⟩
  have := o.len
  rw [flat_len] at this
  rw [List.length_map]
  omega
theorem descrs_s {s : Sl} {ds : List DM} {K : Sl → World → Prop} {w : World} (h : DsIn w s ds) (hn : ds.length ≤ 1000) (hK : ∀ v w', Ext w w' → DsIn w' v ds → K v w') :
    callS Try.prog 15 #[.slice s.a s.len s.cap] [.one .slc] K w := by
  refine f15_ok ?_
  unfold f15
  have hsl := h.len
  refine loop_i (fun (st : Sl × Int) w' => Ext w w' ∧ ∃ i : Nat, i ≤ ds.length ∧ st.2 = i ∧ Own w' w.heap.size st.1 11 ((ds.take i).map DM.cells).flatten) (fun st _ => ds.length - st.2.toNat) ⟨Fr.refl _ _, 0, by omega, rfl, Own.nilSl _ _ 11⟩ ?_
  rintro ⟨b, i'⟩ w1 again ⟨e1, i, hi, hi2, o1⟩ hag
  dsimp only at hi2 o1 ⊢
  subst hi2
  have hbl : b.len = i := by have := o1.len; rw [flat_len, List.length_take] at this; omega
  refine cond_i (fun hlt => ?_) (fun hge => ?_)
  · have hi' : i < ds.length := by have : (i : Int) < (s.len : Int) := of_decide_eq_true hlt
                                   omega
    refine des_at (h.ext e1) hi' fun g w2 e2 hg v2 => ?_
    have ht : ds.take (i + 1) = ds.take i ++ [ds[i]'hi'] := List.take_succ_eq_append_getElem hi'
    generalize ds[i]'hi' = d at ht v2
    refine ldD_i v2 ?_
    refine mDescr_s (d := d) fun w3 e3 => ?_
    have e13 := (e1.trans e2).trans e3
    refine append1D_i (d := d) ((o1.ext e2).ext e3) (by omega) e13.size (by kernel_rfl) fun v w4 f4 o4 _ _ => ?_
    refine hag _ w4 ⟨Ext.own e13 f4 fun k hk => (o1.inB hk).1, i + 1, by omega, ?_, by rw [ht]; exact o4⟩ ?_
    · simp only [wrap_i64 (x := (i : Int) + 1) (by omega) (by omega)]; omega
    · simp only [wrap_i64 (x := (i : Int) + 1) (by omega) (by omega)]; omega
  · have hi' : i = ds.length := by have : ¬ (i : Int) < (s.len : Int) := of_decide_eq_false hge
                                   omega
    subst hi'
    rw [List.take_length] at o1
    exact hK b w1 e1 (DsIn.of_own o1 fun d hd => (h.ok d hd).ext e1)
theorem same_eq (a b : DM) : (((((((((a.kind != b.kind) || (a.alg != b.alg)) || (a.size != b.size)) || (a.blk != b.blk)) || (a.off != b.off)) || (a.loc != b.loc)) || !(a.name == b.name)) = false) ∧ (((a.salt.2 == b.salt.2 && a.dig.2 == b.dig.2) && a.key.2 == b.key.2) && a.val.2 == b.val.2) = true) ↔ a.pure = b.pure := by
  simp only [Bool.or_eq_false_iff, bne_eq_false_iff_eq, Bool.not_eq_false', Bool.and_eq_true, beq_iff_eq, DM.pure, S.Des.mk.injEq]
  constructor
  · rintro ⟨⟨⟨⟨⟨⟨⟨h1, h2⟩, h3⟩, h4⟩, h5⟩, h6⟩, h7⟩, ⟨⟨h8, h9⟩, h10⟩, h11⟩
    exact ⟨h1, h2, h3, h4, h5, h6, h7, h8, h9, h10, h11⟩
  · rintro ⟨h1, h2, h3, h4, h5, h6, h7, h8, h9, h10, h11⟩
    exact ⟨⟨⟨⟨⟨⟨⟨h1, h2⟩, h3⟩, h4⟩, h5⟩, h6⟩, h7⟩, ⟨⟨h8, h9⟩, h10⟩, h11⟩
theorem same_s {a b : DM} {K : Bool → World → Prop} {w : World} (oa : a.Ok w) (ob : b.Ok w) (hK : ∀ w', Ext w w' → K (decide (a.pure = b.pure)) w') :
    callS Try.prog 19 #[.agg a.cells.toArray, .agg b.cells.toArray] [.one .bool] K w := by
  refine f19_ok ?_
  unfold f19
  refine box_i fun g w1 e1 hg v1 => ?_
  have v1 : Var w1 g a.cells := v1
  refine box_i fun g2 w2 e2 hg2 v2 => ?_
  have v2 : Var w2 g2 b.cells := v2
  have v1 := v1.ext e2
  refine ldI v1 0 rfl (ldI v2 0 rfl ?_)
  refine joinOr (x := a.alg != b.alg) (fun w3 e3 => ?_) fun J hJ _ => ldI v1 1 rfl (ldI v2 1 rfl (hJ _ (Fr.refl _ _)))
  refine joinOr (x := a.size != b.size) (fun w4 e4 => ?_) fun J hJ _ => ldI (v1.ext e3) 2 rfl (ldI (v2.ext e3) 2 rfl (hJ _ (Fr.refl _ _)))
  have e24 := e3.trans e4
  refine joinOr (x := a.blk != b.blk) (fun w5 e5 => ?_) fun J hJ _ => ldI (v1.ext e24) 3 rfl (ldI (v2.ext e24) 3 rfl (hJ _ (Fr.refl _ _)))
  have e25 := e24.trans e5
  refine joinOr (x := a.off != b.off) (fun w6 e6 => ?_) fun J hJ _ => ldI (v1.ext e25) 4 rfl (ldI (v2.ext e25) 4 rfl (hJ _ (Fr.refl _ _)))
  have e26 := e25.trans e6
  refine joinOr (x := a.loc != b.loc) (fun w7 e7 => ?_) fun J hJ _ => ldI (v1.ext e26) 5 rfl (ldI (v2.ext e26) 5 rfl (hJ _ (Fr.refl _ _)))
  have e27 := e26.trans e7
  refine joinOr (x := !(a.name == b.name)) (fun w8 e8 => ?_) fun J hJ _ => ldN (v1.ext e27) (ldN (v2.ext e27) (by rw [str_toList, str_toList]; exact hJ _ (Fr.refl _ _)))
  have e28 := e27.trans e8
  have E8 := (e1.trans e2).trans e28
  have oa8 := oa.ext E8
  have ob8 := ob.ext E8
  have v18 := v1.ext e28
  have v28 := v2.ext e28
  have hse := same_eq a b
  refine cond_i (fun hc => ?_) (fun hc => ?_)
  · have := hK w8 E8
    rw [decide_eq_false (fun h => by have := (hse.2 h).1; rw [this] at hc; cases hc)] at this
    exact this
  refine ldS v18 7 rfl (b2s_i oa8.salt (ldS v28 7 rfl (b2s_i ob8.salt ?_)))
  rw [str_toList, str_toList]
  refine joinAnd (x := a.dig.2 == b.dig.2) (fun w9 e9 => ?_) fun J hJ _ => ldS v18 8 rfl (b2s_i oa8.dig (ldS v28 8 rfl (b2s_i ob8.dig (by rw [str_toList, str_toList]; exact hJ _ (Fr.refl _ _)))))
  refine joinAnd (x := a.key.2 == b.key.2) (fun w10 e10 => ?_) fun J hJ _ => ldS (v18.ext e9) 9 rfl (b2s_i (oa8.ext e9).key (ldS (v28.ext e9) 9 rfl (b2s_i (ob8.ext e9).key (by rw [str_toList, str_toList]; exact hJ _ (Fr.refl _ _)))))
  have e810 := e9.trans e10
  refine joinAnd (x := a.val.2 == b.val.2) (fun w11 e11 => ?_) fun J hJ _ => ldS (v18.ext e810) 10 rfl (b2s_i (oa8.ext e810).val (ldS (v28.ext e810) 10 rfl (b2s_i (ob8.ext e810).val (by rw [str_toList, str_toList]; exact hJ _ (Fr.refl _ _)))))
  have := hK w11 (E8.trans (e810.trans e11))
  cases hb : (((a.salt.2 == b.salt.2 && a.dig.2 == b.dig.2) && a.key.2 == b.key.2) && a.val.2 == b.val.2) with
  | true => rw [decide_eq_true (hse.1 ⟨hc, hb⟩)] at this; exact this
  | false => rw [decide_eq_false (fun h => by have := (hse.2 h).2; rw [hb] at this; cases this)] at this; exact this
theorem sames_s {s t : Sl} {ds es : List DM} {K : Bool → World → Prop} {w : World} (h : DsIn w s ds) (h' : DsIn w t es) (hn : ds.length ≤ 100000) (hK : ∀ w', Ext w w' → K (decide (ds.map DM.pure = es.map DM.pure)) w') :
    callS Try.prog 17 #[.slice s.a s.len s.cap, .slice t.a t.len t.cap] [.one .bool] K w := by
  refine f17_ok ?_
  unfold f17
  have hsl := h.len
  have htl := h'.len
  refine cond_i (fun hc => ?_) (fun hc => ?_)
  · have := hK w (Fr.refl _ _)
    rw [decide_eq_false (fun h => by
      have h2 := congrArg List.length h
      rw [List.length_map, List.length_map] at h2
      rw [hsl, htl, h2] at hc
      simp at hc)] at this
    exact this
  have hle : ds.length = es.length := by
    have h2 : (s.len : Int) = (t.len : Int) := by simpa using hc
    omega
  refine loop_i (fun (x : Int) w' => Ext w w' ∧ ∃ i : Nat, i ≤ ds.length ∧ x = i ∧ (ds.map DM.pure).take i = (es.map DM.pure).take i) (fun x _ => ds.length - x.toNat) ⟨Fr.refl _ _, 0, by omega, rfl, rfl⟩ ?_
  rintro x w1 again ⟨e1, i, hi, rfl, heq⟩ hag
  refine cond_i (fun hlt => ?_) (fun hge => ?_)
  · have hi' : i < ds.length := by have : (i : Int) < (s.len : Int) := of_decide_eq_true hlt
                                   omega
    have hi2 : i < es.length := by omega
    refine des_at (h.ext e1) hi' fun g w2 e2 hg v2 => ?_
    have e12 := e1.trans e2
    have h2 := h'.ext e12
    have hmem := List.getElem_mem hi'
    have hmem2 := List.getElem_mem hi2
    have hp : (es.map DM.cells)[i]? = some (es[i]'hi2).cells := by simp [hi2]
    have t1 : (ds.map DM.pure).take (i + 1) = (ds.map DM.pure).take i ++ [(ds[i]'hi').pure] := by rw [List.take_succ_eq_append_getElem (by rw [List.length_map]; exact hi')]; simp
    have t2 : (es.map DM.pure).take (i + 1) = (es.map DM.pure).take i ++ [(es[i]'hi2).pure] := by rw [List.take_succ_eq_append_getElem (by rw [List.length_map]; exact hi2)]; simp
    generalize ds[i]'hi' = d at v2 hmem t1
    generalize es[i]'hi2 = o at hp hmem2 t2
    obtain ⟨a, ha⟩ := h2.rds.some (by omega)
    have hcell := h2.rds.elem ha hp
    have hd := Ext.drew w2
    refine ⟨fun y => Ext w2 y, hd, ?_⟩
    refine ldDQ_i (d := d) (fun y hy => v2.ext hy) ?_
    refine ixQ_i ha (by omega) (by omega) ?_
    rw [Int.toNat_natCast]
    refine ldAQ_i (n := 11) o.cells rfl (fun y hy j v hv => hy.cell (hcell j v hv) id) ?_
    refine mDescr_s (d := d) fun w3 e3 => ?_
    refine more_i (hd.trans e3) ?_
    refine mDescr_s (d := o) fun w4 e4 => ?_
    have e24 := (hd.trans e3).trans e4
    have e14 := e12.trans e24
    refine same_s (a := d) (b := o) ((h.ok d hmem).ext e14) ((h'.ok o hmem2).ext e14) fun w5 e5 => ?_
    have e15 := e14.trans e5
    refine cond_i (fun hb => ?_) (fun hb => ?_)
    · have := hK w5 e15
      rw [decide_eq_false (fun hh => by
        have h3 : (ds.map DM.pure).take (i + 1) = (es.map DM.pure).take (i + 1) := by rw [hh]
        rw [t1, t2, heq] at h3
        have h4 : d.pure = o.pure := by simpa using h3
        rw [decide_eq_true h4] at hb
        cases hb)] at this
      exact this
    · have h4 : d.pure = o.pure := by simpa using hb
      refine hag _ w5 ⟨e15, i + 1, by omega, ?_, by rw [t1, t2, heq, h4]⟩ ?_
      · simp only [wrap_i64 (x := (i : Int) + 1) (by omega) (by omega)]; omega
      · simp only [wrap_i64 (x := (i : Int) + 1) (by omega) (by omega)]; omega
  · have hi' : i = ds.length := by have : ¬ (i : Int) < (s.len : Int) := of_decide_eq_false hge
                                   omega
    subst hi'
    rw [List.take_of_length_le (by rw [List.length_map]; omega), List.take_of_length_le (by rw [List.length_map]; omega)] at heq
    have := hK w1 e1
    rw [decide_eq_true heq] at this
    exact this
end Go.Proofs.Ytgjbajjggmpmmaa
