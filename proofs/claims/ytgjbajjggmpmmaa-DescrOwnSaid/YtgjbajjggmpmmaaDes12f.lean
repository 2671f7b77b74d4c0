/- Layer 12 (descr): Encode, the program's and the document's; lists compared. -/
import Derived.Test.YtgjbajjggmpmmaaDes12e
set_option linter.unusedSimpArgs false
set_option linter.unusedVariables false
namespace Go.S
open Go Go.Eng
theorem encs_take_le {ds : List Des} (h : ∀ d ∈ ds, d.right = true) (i : Nat) : (encs (ds.take i)).length ≤ 1600 * ds.length := by
  have : ∀ l : List Des, (∀ d ∈ l, d.right = true) → (encs l).length ≤ 1600 * l.length := fun l hl => by
    induction l with
    | nil => simp [encs]
    | cons d l ih =>
      have h1 := Des.enc_len d
      have h2 := Des.txl_le (Des.fits (hl d (by simp)))
      have h3 := ih fun x hx => hl x (by simp [hx])
      simp only [encs, List.flatMap_cons, List.length_append, List.length_cons] at h3 ⊢
      omega
  have h1 := this (ds.take i) fun d hd => h d (List.mem_of_mem_take hd)
  have h2 : (ds.take i).length ≤ ds.length := by rw [List.length_take]; omega
  have := Nat.mul_le_mul_left 1600 h2
  omega
theorem encs_snoc (ds : List Des) (d : Des) : encs (ds ++ [d]) = encs ds ++ d.enc := by simp [encs]
end Go.S
namespace Go.Proofs.Ytgjbajjggmpmmaa
open Go Go.Eng
theorem any_pure {ds : List DM} {q : S.Des → Bool} : (ds.any fun d => q d.pure) = (ds.map DM.pure).any q := by rw [List.any_map]; rfl
theorem tw_step {ps : List S.Des} {i : Nat} (hi : i < ps.length) : S.tw (ps.take i) (ps.drop i) = ((ps.take i).any (ps[i]'hi).like || S.tw (ps.take (i + 1)) (ps.drop (i + 1))) := by
  rw [List.drop_eq_getElem_cons hi, S.tw, List.take_succ_eq_append_getElem hi]
theorem dEncode_s {s : Sl} {ds : List DM} {K : Sl → Int → World → Prop} {w : World} (h : DsIn w s ds) (hn : ds.length ≤ 100000) (hs : ∀ d ∈ ds, d.Sm)
    (hErr : S.encErr (ds.map DM.pure) ≠ 0 → ∀ w', Ext w w' → K Sl.nil (S.encErr (ds.map DM.pure)) w') (hOk : S.encErr (ds.map DM.pure) = 0 → ∀ v w', Ext w w' → OwnB w' w.heap.size v (S.encs (ds.map DM.pure)) → K v 0 w') :
    callS Try.prog 13 #[.slice s.a s.len s.cap] [.one .slc, .one (.int .i64)] K w := by
  refine f13_ok ?_
  unfold f13
  have hsl := h.len
  have hpl : (ds.map DM.pure).length = ds.length := List.length_map _
  have err : ∀ e w', S.encErr (ds.map DM.pure) = e → e ≠ 0 → Ext w w' → K Sl.nil e w' := fun e w' he hne x => by
    have := hErr (by rw [he]; exact hne) w' x
    rw [he] at this; exact this
  refine cond_i (fun hc => ?_) (fun hc => ?_)
  · have : (s.len : Int) > 32 := of_decide_eq_true hc
    exact err 11 w (by unfold S.encErr; rw [if_pos (by omega)]) (by decide) (Fr.refl _ _)
  have hle : ds.length ≤ 32 := by have : ¬ (s.len : Int) > 32 := of_decide_eq_false hc
                                  omega
  refine contains_s (q := fun d => !d.pure.right) h hn (fun d hd R w1 e1 hR => ?_) fun w1 e1 => ?_
  · refine callFn_i (fn := Try.f31) Try.func31 (by kernel_rfl) (by kernel_rfl) ?_
    refine f31_ok ?_
    unfold f31
    refine box_i fun g w2 e2 hg v2 => ?_
    have v2 : Var w2 g d.cells := v2
    refine ldD_i v2 ?_
    exact dRight_s (h.ok d hd).ln (hs d hd) fun w3 e3 => hR w3 (e2.trans e3)
  refine cond_i (fun ha => ?_) (fun ha => ?_)
  · refine err 12 w1 ?_ (by decide) e1
    unfold S.encErr
    rw [if_neg (by omega), if_pos]
    rw [List.any_eq_true] at ha
    obtain ⟨d, hd, hr⟩ := ha
    rw [Bool.eq_false_iff]
    intro hall
    have := List.all_eq_true.1 hall _ (List.mem_map_of_mem hd)
    rw [this] at hr; cases hr
  have hright : ∀ p ∈ ds.map DM.pure, p.right = true := fun p hp => by
    obtain ⟨d, hd, rfl⟩ := List.mem_map.1 hp
    have := List.any_eq_false.1 ha d hd
    simpa using this
  have hall : (ds.map DM.pure).all S.Des.right = true := List.all_eq_true.2 hright
  refine loop_i (fun (st : Sl × Int) w' => Ext w1 w' ∧ ∃ i : Nat, i ≤ ds.length ∧ st.2 = i ∧ OwnB w' w.heap.size st.1 (S.encs ((ds.map DM.pure).take i)) ∧ S.tw ((ds.map DM.pure).take i) ((ds.map DM.pure).drop i) = S.tw [] (ds.map DM.pure)) (fun st _ => ds.length - st.2.toNat) ⟨Fr.refl _ _, 0, by omega, rfl, Own.nilSl _ _ 1, rfl⟩ ?_
  rintro ⟨b, i'⟩ w2 again ⟨e2, i, hi, hi2, o2, htw⟩ hag
  dsimp only at hi2 o2 ⊢
  subst hi2
  have E2 := e1.trans e2
  have hel := S.encs_take_le hright i
  refine cond_i (fun hlt => ?_) (fun hge => ?_)
  · have hi' : i < ds.length := by have : (i : Int) < (s.len : Int) := of_decide_eq_true hlt
                                   omega
    have hip : i < (ds.map DM.pure).length := by omega
    have hst := tw_step hip
    rw [htw] at hst
    refine des_at (h.ext E2) hi' fun g w3 e3 hg v3 => ?_
    have hmem := List.getElem_mem hi'
    have hpi : (ds.map DM.pure)[i]'hip = (ds[i]'hi').pure := by simp
    have htk : (ds.map DM.pure).take (i + 1) = (ds.map DM.pure).take i ++ [(ds[i]'hi').pure] := by rw [List.take_succ_eq_append_getElem hip, hpi]
    rw [hpi] at hst
    have hri := hright _ (List.mem_map_of_mem hmem)
    generalize ds[i]'hi' = d at v3 hmem htk hst hri
    have okd := h.ok d hmem
    have hf := S.Des.fits hri
    have hd := Ext.drew w3
    have E3 := E2.trans e3
    refine ⟨fun y => Ext w3 y, hd, ?_⟩
    refine slHiQ_i (by omega) (by have := h.rds.rd.cap; omega) ?_
    rw [Int.toNat_natCast]
    refine ldDQ_i (d := d) (fun y hy => v3.ext hy) ?_
    have hcut := DsIn.cut (h.ext (E3.trans hd)) (i := i) (by omega)
    refine contains_s (q := fun o => d.pure.like o.pure) hcut (by rw [List.length_take]; omega) (fun o ho R w4 e4 hR => ?_) fun w4 e4 => ?_
    · refine callBound_i (bs := #[.agg d.cells.toArray]) (fn := Try.f32) Try.func32 (by kernel_rfl) (by kernel_rfl) ?_
      exact like_s hR
    rw [any_pure (q := d.pure.like), List.map_take]
    have e34 := hd.trans e4
    refine cond_i (fun hq => ?_) (fun hq => ?_)
    · refine err 35 w4 ?_ (by decide) (E3.trans e34)
      unfold S.encErr
      rw [if_neg (by omega), if_neg (by rw [hall]; simp), if_pos]
      rw [hst, hq]; rfl
    have v4 := v3.ext e34
    refine ldD_i v4 ?_
    refine body_s hri (okd.ext (E3.trans e34)) fun r5 w5 e5 o5 => ?_
    refine ldI (v4.ext e5) 0 rfl ?_
    have hk0 : 0 ≤ d.kind ∧ d.kind ≤ 4 := hf.kind
    have hbl := S.Des.body_len d.pure
    have hbt := S.Des.txl_le hf
    have e25 := (e3.trans e34).trans e5
    have o25 := o2.ext e25
    have hkn : d.kind = ((d.kind.toNat : Nat) : Int) := by omega
    have hput : (S.put (S.encs ((ds.map DM.pure).take i)) 8 d.kind) = (S.encs ((ds.map DM.pure).take i) ++ S.be 8 d.kind.toNat, 0) := by
      rw [hkn, Int.toNat_natCast]
      exact S.put_fit (z := 8) (by omega) (Nat.lt_of_le_of_lt (m := 4) (by omega) (by decide))
    refine put_s o25.rd (by omega) (by constructor <;> omega) (by constructor <;> omega) fun v6 w6 e6 o6 => ?_
    rw [hput] at o6
    have hr5l := OwnB.len o5
    rw [show (r5.len : Int) = ((d.pure.body.length : Nat) : Int) by rw [hr5l]]
    refine put_s o6.rd (by rw [List.length_append, S.be_length]; omega) (by constructor <;> omega) (by constructor <;> omega) fun v7 w7 e7 o7 => ?_
    rw [show S.put (S.encs ((ds.map DM.pure).take i) ++ S.be 8 d.kind.toNat) 8 ((d.pure.body.length : Nat) : Int) = (S.encs ((ds.map DM.pure).take i) ++ S.be 8 d.kind.toNat ++ S.be 8 d.pure.body.length, 0) from
      S.put_fit (z := 8) (by omega) (Nat.lt_of_le_of_lt (m := 5000) (by omega) (by decide))] at o7
    have o57 := (o5.ext e6).ext e7
    refine two_i o7.rd o57.rd fun y w8 e8 hp8 => ?_
    have hfl : flatB [(v7, S.encs ((ds.map DM.pure).take i) ++ S.be 8 d.kind.toNat ++ S.be 8 d.pure.body.length), (r5, d.pure.body)] = S.encs ((ds.map DM.pure).take (i + 1)) := by
      rw [htk, S.encs_snoc]
      simp [flatB, S.Des.enc, DM.pure, List.append_assoc]
    have hel1 := S.encs_take_le hright (i + 1)
    refine concat_s hp8 (by simp) (by rw [hfl]; omega) fun c w9 e9 o9 => ?_
    rw [hfl] at o9
    have e28 := ((e25.trans e6).trans e7).trans e8
    refine hag _ w9 ⟨(e2.trans e28).trans e9, i + 1, by omega, ?_, o9.base (by have := (E2.trans e28).size; omega), ?_⟩ ?_
    · simp only [wrap_i64 (x := (i : Int) + 1) (by omega) (by omega)]; omega
    · rw [hst, hq]; rfl
    · simp only [wrap_i64 (x := (i : Int) + 1) (by omega) (by omega)]; omega
  · have hi' : i = ds.length := by have : ¬ (i : Int) < (s.len : Int) := of_decide_eq_false hge
                                   omega
    subst hi'
    rw [List.take_of_length_le (by omega)] at o2
    rw [List.drop_of_length_le (by omega)] at htw
    refine hOk ?_ b w2 E2 o2
    exact S.encErr_of (by omega) hright htw.symm
theorem rEncode_s {s : Sl} {ds : List DM} {K : Sl → Int → World → Prop} {w : World} (h : DsIn w s ds) (hn : ds.length ≤ 100000) (hs : ∀ d ∈ ds, d.Sm)
    (hErr : S.encErr (ds.map DM.pure) ≠ 0 → ∀ w', Ext w w' → K Sl.nil (S.encErr (ds.map DM.pure)) w') (hOk : S.encErr (ds.map DM.pure) = 0 → ∀ v w', Ext w w' → OwnB w' w.heap.size v (S.encs (ds.map DM.pure)) → K v 0 w') :
    callS Try.prog 14 #[.slice s.a s.len s.cap] [.one .slc, .one (.int .i64)] K w := by
  refine f14_ok ?_
  unfold f14
  have hsl := h.len
  have hpl : (ds.map DM.pure).length = ds.length := List.length_map _
  have err : ∀ e w', S.encErr (ds.map DM.pure) = e → e ≠ 0 → Ext w w' → K Sl.nil e w' := fun e w' he hne x => by
    have := hErr (by rw [he]; exact hne) w' x
    rw [he] at this; exact this
  refine cond_i (fun hc => ?_) (fun hc => ?_)
  · have : (s.len : Int) > 32 := of_decide_eq_true hc
    exact err 11 w (by unfold S.encErr; rw [if_pos (by omega)]) (by decide) (Fr.refl _ _)
  have hle : ds.length ≤ 32 := by have : ¬ (s.len : Int) > 32 := of_decide_eq_false hc
                                  omega
  refine loop_i (fun (x : Int) w' => Ext w w' ∧ ∃ i : Nat, i ≤ ds.length ∧ x = i ∧ ∀ d ∈ ds.take i, d.pure.right = true) (fun x _ => ds.length - x.toNat) ⟨Fr.refl _ _, 0, by omega, rfl, fun d hd => by simp at hd⟩ ?_
  rintro x w1 again ⟨e1, i, hi, rfl, hri⟩ hag
  refine cond_i (fun hlt => ?_) (fun hge => ?_)
  · have hi' : i < ds.length := by have : (i : Int) < (s.len : Int) := of_decide_eq_true hlt
                                   omega
    refine des_ld (h.ext e1) hi' ?_
    have ht : ds.take (i + 1) = ds.take i ++ [ds[i]'hi'] := List.take_succ_eq_append_getElem hi'
    have hmem := List.getElem_mem hi'
    generalize ds[i]'hi' = d at ht hmem
    refine rdRight_s (d := d) (h.ok d hmem).ln (hs d hmem) fun w2 e2 => ?_
    refine cond_i (fun hb => ?_) (fun hb => ?_)
    · refine err 12 w2 ?_ (by decide) (e1.trans e2)
      unfold S.encErr
      rw [if_neg (by omega), if_pos]
      rw [Bool.eq_false_iff]
      intro hall
      have := List.all_eq_true.1 hall _ (List.mem_map_of_mem hmem)
      rw [this] at hb; cases hb
    · refine hag _ w2 ⟨e1.trans e2, i + 1, by omega, ?_, ?_⟩ ?_
      · simp only [wrap_i64 (x := (i : Int) + 1) (by omega) (by omega)]; omega
      · rw [ht]
        intro o ho
        rcases List.mem_append.1 ho with ho | ho
        · exact hri o ho
        · rw [List.mem_singleton.1 ho]; simpa using hb
      · simp only [wrap_i64 (x := (i : Int) + 1) (by omega) (by omega)]; omega
  have hi' : i = ds.length := by have : ¬ (i : Int) < (s.len : Int) := of_decide_eq_false hge
                                 omega
  subst hi'
  rw [List.take_length] at hri
  have hright : ∀ p ∈ ds.map DM.pure, p.right = true := fun p hp => by
    obtain ⟨d, hd, rfl⟩ := List.mem_map.1 hp
    exact hri d hd
  have hall : (ds.map DM.pure).all S.Des.right = true := List.all_eq_true.2 hright
  refine loop_i (fun (st : Sl × Int) w' => Ext w w' ∧ ∃ i : Nat, i ≤ ds.length ∧ st.2 = i ∧ OwnB w' w.heap.size st.1 (S.encs ((ds.map DM.pure).take i)) ∧ S.tw ((ds.map DM.pure).take i) ((ds.map DM.pure).drop i) = S.tw [] (ds.map DM.pure)) (fun st _ => ds.length - st.2.toNat) ⟨e1, 0, by omega, rfl, Own.nilSl _ _ 1, rfl⟩ ?_
  rintro ⟨b, i'⟩ w2 again2 ⟨e2, i, hi, hi2, o2, htw⟩ hag2
  dsimp only at hi2 o2 ⊢
  subst hi2
  have hel := S.encs_take_le hright i
  refine cond_i (fun hlt => ?_) (fun hge => ?_)
  · have hi' : i < ds.length := by have : (i : Int) < (s.len : Int) := of_decide_eq_true hlt
                                   omega
    have hip : i < (ds.map DM.pure).length := by omega
    have hst := tw_step hip
    rw [htw] at hst
    have hd := Ext.drew w2
    have h2 := h.ext e2
    obtain ⟨a, ha⟩ := h2.rds.some (by omega)
    have hp : (ds.map DM.cells)[i]? = some (ds[i]'hi').cells := by simp [hi']
    have hcell := h2.rds.elem ha hp
    have hld := fun (w4 : World) (e4 : Ext w2 w4) {K' : Int → Int → Int → Int → Int → Int → ByteArray → Sl → Sl → Sl → Sl → World → Prop} (hK' : K' (ds[i]'hi').kind (ds[i]'hi').alg (ds[i]'hi').size (ds[i]'hi').blk (ds[i]'hi').off (ds[i]'hi').loc (str (ds[i]'hi').name) (ds[i]'hi').salt.1 (ds[i]'hi').dig.1 (ds[i]'hi').key.1 (ds[i]'hi').val.1 w4) => des_ld (t := 35) (e := 28) (h.ext (e2.trans e4)) hi' hK'
    have hmem := List.getElem_mem hi'
    have hpi : (ds.map DM.pure)[i]'hip = (ds[i]'hi').pure := by simp
    have htk : (ds.map DM.pure).take (i + 1) = (ds.map DM.pure).take i ++ [(ds[i]'hi').pure] := by rw [List.take_succ_eq_append_getElem hip, hpi]
    rw [hpi] at hst
    have hrd := hright _ (List.mem_map_of_mem hmem)
    generalize ds[i]'hi' = d at hmem htk hst hrd hld hcell
    have okd := h.ok d hmem
    refine ⟨fun y => Ext w2 y, hd, ?_⟩
    refine slHiQ_i (by omega) (by have := h.rds.rd.cap; omega) ?_
    rw [Int.toNat_natCast]
    refine ixQ_i ha (by omega) (by omega) ?_
    rw [Int.toNat_natCast]
    refine ldAQ_i (n := 11) d.cells rfl (fun y hy j v hv => hy.cell (hcell j v hv) id) ?_
    have hcut := DsIn.cut (h.ext (e2.trans hd)) (i := i) (by omega)
    refine twice_s (d := d) hcut (by rw [List.length_take]; omega) fun w4 e4 => ?_
    rw [any_pure (q := d.pure.like), List.map_take]
    have e24 := hd.trans e4
    refine cond_i (fun hq => ?_) (fun hq => ?_)
    · refine err 35 w4 ?_ (by decide) (e2.trans e24)
      unfold S.encErr
      rw [if_neg (by omega), if_neg (by rw [hall]; simp), if_pos]
      rw [hst, hq]; rfl
    refine hld w4 e24 ?_
    refine rbytes_s (d := d) hrd (okd.ext (e2.trans e24)) fun r5 w5 e5 o5 => ?_
    have hf := S.Des.fits hrd
    have hbl := S.Des.enc_len d.pure
    have hbt := S.Des.txl_le hf
    have e25 := e24.trans e5
    refine app_i (e2.trans e25) (o2.ext e25) o5.rd (by omega) fun v6 w6 E6 o6 => ?_
    refine hag2 _ w6 ⟨E6, i + 1, by omega, ?_, ?_, ?_⟩ ?_
    · simp only [wrap_i64 (x := (i : Int) + 1) (by omega) (by omega)]; omega
    · rw [htk, S.encs_snoc]; exact o6
    · rw [hst, hq]; rfl
    · simp only [wrap_i64 (x := (i : Int) + 1) (by omega) (by omega)]; omega
  · have hi' : i = ds.length := by have : ¬ (i : Int) < (s.len : Int) := of_decide_eq_false hge
                                   omega
    subst hi'
    rw [List.take_of_length_le (by omega)] at o2
    rw [List.drop_of_length_le (by omega)] at htw
    exact hOk (S.encErr_of (by omega) hright htw.symm) b w2 e2 o2
/-! ### the tools of the statements -/
theorem mDescr_s {d : DM} {K : Int → Int → Int → Int → Int → Int → ByteArray → Sl → Sl → Sl → Sl → World → Prop} {w : World} (hK : ∀ w', Ext w w' → K d.kind d.alg d.size d.blk d.off d.loc (str d.name) d.salt.1 d.dig.1 d.key.1 d.val.1 w') :
    callS Try.prog 11 #[.agg d.cells.toArray] [.agg lD] K w := by
  refine f11_ok ?_
  unfold f11
  refine box_i fun g w1 e1 hg v1 => ?_
  have v1 : Var w1 g d.cells := v1
  refine alloc_i fun g2 w2 e2 hg2 v2 => ?_
  refine ldD_i (v1.ext e2) ?_
  refine stD_i (d := d) v2 rfl fun w3 f3 v3 => ?_
  have s1 := e1.size
  exact resD_i v3 (hK w3 (Fr.own1 (e1.trans e2) f3 (by omega)))
theorem small_s {s : Sl} {ds : List DM} {K : Bool → World → Prop} {w : World} (h : DsIn w s ds) (hF : ∀ w', Ext w w' → K false w') (hT : ds.length ≤ 40 → (∀ d ∈ ds, d.Sm) → ∀ w', Ext w w' → K true w') (hn : ds.length ≤ 9223372036854775807) :
    callS Try.prog 9 #[.slice s.a s.len s.cap] [.one .bool] K w := by
  refine f9_ok ?_
  unfold f9
  have hsl := h.len
  refine loop_i (fun (x : Int) w' => Ext w w' ∧ ∃ i : Nat, i ≤ ds.length ∧ x = i ∧ ∀ d ∈ ds.take i, d.Sm) (fun x _ => ds.length - x.toNat) ⟨Fr.refl _ _, 0, by omega, rfl, fun d hd => by simp at hd⟩ ?_
  rintro x w1 again ⟨e1, i, hi, rfl, hsm⟩ hag
  refine cond_i (fun hlt => ?_) (fun hge => ?_)
  · have hi' : i < ds.length := by have : (i : Int) < (s.len : Int) := of_decide_eq_true hlt
                                   omega
    refine des_at (h.ext e1) hi' fun g w2 e2 hg v2 => ?_
    have ht : ds.take (i + 1) = ds.take i ++ [ds[i]'hi'] := List.take_succ_eq_append_getElem hi'
    have hmem := List.getElem_mem hi'
    generalize ds[i]'hi' = d at ht hmem v2
    have hln := (h.ok d hmem).ln
    refine ldN v2 ?_
    rw [str_size]
    refine joinOr (x := decide ((d.salt.1.len : Int) > 200)) (fun w3 e3 => ?_) fun J hJ _ => ldS v2 7 rfl (hJ _ (Fr.refl _ _))
    refine joinOr (x := decide ((d.dig.1.len : Int) > 200)) (fun w4 e4 => ?_) fun J hJ _ => ldS (v2.ext e3) 8 rfl (hJ _ (Fr.refl _ _))
    have e34 := e3.trans e4
    refine joinOr (x := decide ((d.key.1.len : Int) > 1100)) (fun w5 e5 => ?_) fun J hJ _ => ldS (v2.ext e34) 9 rfl (hJ _ (Fr.refl _ _))
    have e35 := e34.trans e5
    refine joinOr (x := decide ((d.val.1.len : Int) > 400)) (fun w6 e6 => ?_) fun J hJ _ => ldS (v2.ext e35) 10 rfl (hJ _ (Fr.refl _ _))
    have E6 := (e1.trans e2).trans (e35.trans e6)
    refine cond_i (fun _ => hF w6 E6) (fun hb => ?_)
    simp only [Bool.or_eq_false_iff, decide_eq_false_iff_not] at hb
    obtain ⟨⟨⟨⟨b1, b2⟩, b3⟩, b4⟩, b5⟩ := hb
    have l1 := hln.salt
    have l2 := hln.dig
    have l3 := hln.key
    have l4 := hln.val
    refine hag _ w6 ⟨E6, i + 1, by omega, ?_, ?_⟩ ?_
    · simp only [wrap_i64 (x := (i : Int) + 1) (by omega) (by omega)]; omega
    · rw [ht]
      intro o ho
      rcases List.mem_append.1 ho with ho | ho
      · exact hsm o ho
      · rw [List.mem_singleton.1 ho]
        exact ⟨by omega, by omega, by omega, by omega, by omega⟩
    · simp only [wrap_i64 (x := (i : Int) + 1) (by omega) (by omega)]; omega
  · have hi' : i = ds.length := by have : ¬ (i : Int) < (s.len : Int) := of_decide_eq_false hge
                                   omega
    subst hi'
    rw [List.take_length] at hsm
    by_cases h40 : ds.length ≤ 40
    · rw [decide_eq_true (show (s.len : Int) ≤ 40 by omega)]
      exact hT h40 hsm w1 e1
    · rw [decide_eq_false (show ¬ (s.len : Int) ≤ 40 by omega)]
      exact hF w1 e1
end Go.Proofs.Ytgjbajjggmpmmaa
