/- Layer 12 (descr): the laws DescrEncodes and DescrParses. -/
import Derived.Test.YtgjbajjggmpmmaaDes12j
set_option linter.unusedSimpArgs false
set_option linter.unusedVariables false
namespace Go.Proofs.Ytgjbajjggmpmmaa
open Go Go.Eng
theorem descrs_of {W : World} {s : Sl} {css : List (List Value)} (hr : Rds W s 11 css) (hk : ∀ c ∈ css, KindsR W [.int .i64, .int .i64, .int .i64, .int .i64, .int .i64, .int .i64, .str, .bts, .bts, .bts, .bts] c) (hc : s.cap ≤ 9223372036854775807) : ∃ ds : List DM, DsIn W s ds ∧ ds.length ≤ 9223372036854775807 := by
  obtain ⟨ds, rfl, hd⟩ := each_of DM.cells (fun d => d.Ok W) (fun c hc => by
    obtain ⟨v1, c, rfl, h1, hc⟩ := kinds_cons hc
    obtain ⟨v2, c, rfl, h2, hc⟩ := kinds_cons hc
    obtain ⟨v3, c, rfl, h3, hc⟩ := kinds_cons hc
    obtain ⟨v4, c, rfl, h4, hc⟩ := kinds_cons hc
    obtain ⟨v5, c, rfl, h5, hc⟩ := kinds_cons hc
    obtain ⟨v6, c, rfl, h6, hc⟩ := kinds_cons hc
    obtain ⟨v7, c, rfl, h7, hc⟩ := kinds_cons hc
    obtain ⟨v8, c, rfl, h8, hc⟩ := kinds_cons hc
    obtain ⟨v9, c, rfl, h9, hc⟩ := kinds_cons hc
    obtain ⟨v10, c, rfl, h10, hc⟩ := kinds_cons hc
    obtain ⟨v11, c, rfl, h11, hc⟩ := kinds_cons hc
    obtain rfl := kinds_nil hc
    obtain ⟨n1, rfl, b1⟩ := ok_int h1
    obtain ⟨n2, rfl, b2⟩ := ok_int h2
    obtain ⟨n3, rfl, b3⟩ := ok_int h3
    obtain ⟨n4, rfl, b4⟩ := ok_int h4
    obtain ⟨n5, rfl, b5⟩ := ok_int h5
    obtain ⟨n6, rfl, b6⟩ := ok_int h6
    obtain ⟨nm, rfl, b7⟩ := ok_str h7
    obtain ⟨x8, rfl, b8⟩ := ok_bts h8
    obtain ⟨x9, rfl, b9⟩ := ok_bts h9
    obtain ⟨x10, rfl, b10⟩ := ok_bts h10
    obtain ⟨x11, rfl, b11⟩ := ok_bts h11
    exact ⟨⟨n1, n2, n3, n4, n5, n6, nm, x8, x9, x10, x11⟩, rfl, wf_i64 b1, wf_i64 b2, wf_i64 b3, wf_i64 b4, wf_i64 b5, wf_i64 b6, b7, b8, b9, b10, b11⟩) css hk
  have h : DsIn W s ds := ⟨hr, hd⟩
  exact ⟨ds, h, by have := h.len; have := hr.rd.cap; omega⟩
def quiet : List UInt8 := [113, 117, 105, 101, 116]
def qD : S.Des := ⟨3, 0, 0, 0, 0, 0, [], [], [], [], quiet⟩
theorem qD_ok : S.encErr [qD] = 0 ∧ (S.encs [qD]).length = 72 := by constructor <;> decide +kernel
theorem DM.sm_of {d : DM} (h : d.pure.right = true) : d.Sm := by
  have f := S.Des.fits h
  exact ⟨Nat.le_trans f.name (by decide), Nat.le_trans f.salt (by decide), Nat.le_trans f.dig (by decide), Nat.le_trans f.key (by decide), Nat.le_trans f.val (by decide)⟩
theorem anchor12_s {K : Bool → World → Prop} {w : World} (hK : ∀ w', Ext w w' → K true w') : callS Try.prog 8 #[] [.one .bool] K w := by
  refine f8_ok ?_
  unfold f8
  refine bytesConst_i quiet (by kernel_rfl) rfl (by decide) fun x2 w1 e1 o1 => ?_
  let d : DM := ⟨3, 0, 0, 0, 0, 0, [], (Sl.nil, []), (Sl.nil, []), (Sl.nil, []), (x2, quiet)⟩
  refine buildSlice_i (sz := 11) d.cells.toArray (by kernel_rfl) rfl (by omega) fun x3 w2 e2 o2 hl3 => ?_
  have okd : d.Ok w2 := ⟨⟨by show _ ≤ (3 : Int); decide, by show (3 : Int) ≤ _; decide⟩, ⟨by show _ ≤ (0 : Int); decide, by show (0 : Int) ≤ _; decide⟩, ⟨by show _ ≤ (0 : Int); decide, by show (0 : Int) ≤ _; decide⟩, ⟨by show _ ≤ (0 : Int); decide, by show (0 : Int) ≤ _; decide⟩, ⟨by show _ ≤ (0 : Int); decide, by show (0 : Int) ≤ _; decide⟩, ⟨by show _ ≤ (0 : Int); decide, by show (0 : Int) ≤ _; decide⟩, by show 0 ≤ _; omega,
    Rd.nilSl _ _, Rd.nilSl _ _, Rd.nilSl _ _, o1.rd.ext e2⟩
  have hds : DsIn w2 x3 [d] := DsIn.of_own (B := w1.heap.size) (by simpa using o2) fun o ho => by rw [List.mem_singleton.1 ho]; exact okd
  obtain ⟨q, hq, hp⟩ : ∃ q : S.Des, q = qD ∧ [d].map DM.pure = [q] := ⟨qD, rfl, rfl⟩
  have qok : S.encErr [q] = 0 ∧ (S.encs [q]).length = 72 := by rw [hq]; exact qD_ok
  have hsm : ∀ o ∈ [d], o.Sm := fun o ho => by
    rw [List.mem_singleton.1 ho]
    exact ⟨by show 0 ≤ _; omega, by show 0 ≤ _; omega, by show 0 ≤ _; omega, by show 0 ≤ _; omega, by show 5 ≤ _; omega⟩
  have hn1 : [d].length ≤ 100000 := by show 1 ≤ _; omega
  clear_value d
  have hp0 : S.encErr ([d].map DM.pure) = 0 := by rw [hp]; exact qok.1
  refine dEncode_s hds hn1 hsm (fun h => absurd hp0 h) fun _ r4 w3 e3 o3 => ?_
  rw [hp] at o3
  have hl4 := OwnB.len o3
  have hround := S.pars_round qok.1 (Nat.lt_succ_self (S.encs [q]).length)
  refine dParse_s o3.rd (by rw [qok.2]; decide) (fun h => absurd (by rw [hround]) h) fun _ r6 w4 ds e4 hps hfr => ?_
  rw [hround] at hps
  have hdl : ds.length = 1 := by have := congrArg List.length hps; rw [List.length_map] at this; exact this
  obtain ⟨o, rfl⟩ : ∃ o, ds = [o] := List.length_eq_one_iff.1 hdl
  have hop : o.pure = q := by have := hps; simp at this; exact this
  have hr6 := hfr.len
  have E4 := ((e1.trans e2).trans e3).trans e4
  refine joinAnd (x := true) (fun w' e => ?_) fun J hJ _ => ?_
  · have := hK w' (E4.trans e)
    rw [show ((((((0 : Int) == 0) && ((r4.len : Int) == 72)) && ((0 : Int) == 0)) && ((r6.len : Int) == 1)) && true) = true by rw [hl4, qok.2, hr6]; rfl]
    exact this
  · have hcell := hfr.ds.rds
    obtain ⟨a, ha⟩ := hcell.some (by rw [hr6]; exact Nat.one_pos)
    have hp0 : ([o].map DM.cells)[0]? = some o.cells := rfl
    refine ix_i ha (by decide) (by rw [hr6]; exact Int.one_pos) ?_
    have h10 := hcell.elem ha hp0 10 (slV o.val.1) rfl
    refine ld_i (l := .slc) o.val.1 h10 ?_
    have hv := (hfr.ok o (by simp)).val
    refine b2s_i hv ?_
    have hqv : o.val.2 = quiet := by have := congrArg S.Des.val hop; rw [hq] at this; exact this
    rw [hqv, str_toList]
    have ht : (ByteArray.mk #[113, 117, 105, 101, 116]).toList = quiet := str_toList quiet
    rw [ht, beq_self_eq_true]
    exact hJ _ (Fr.refl _ _)
theorem DescrEncodes_s {p0 : Sl} {ds : List DM} {K : Bool → World → Prop} {w : World} (hh : DsIn w p0 ds ∧ ds.length ≤ 9223372036854775807) (hK : ∀ w', Ext w w' → K true w') :
    callS Try.prog 3 #[.slice p0.a p0.len p0.cap] [.one .bool] K w := by
  refine f3_ok ?_
  unfold f3
  obtain ⟨h, hn⟩ := hh
  have hsl := h.len
  refine anchor12_s fun w1 e1 => ?_
  refine cond_i (fun h => by cases h) (fun _ => ?_)
  refine small_s (h.ext e1) (fun w2 e2 => ?_) (fun h40 hsm w2 e2 => ?_) hn
  · exact cond_i (fun _ => hK w2 (e1.trans e2)) (fun h => by cases h)
  refine cond_i (fun h => by cases h) (fun _ => ?_)
  have E2 := e1.trans e2
  refine loop_i (fun (x : Int) w' => Ext w w' ∧ ∃ i : Nat, i ≤ ds.length ∧ x = i) (fun x _ => ds.length - x.toNat) ⟨E2, 0, by omega, rfl⟩ ?_
  rintro x w3 again ⟨e3, i, hi, rfl⟩ hag
  refine cond_i (fun hlt => ?_) (fun hge => ?_)
  · have hi' : i < ds.length := by have : (i : Int) < (p0.len : Int) := of_decide_eq_true hlt
                                   omega
    refine des_at (h.ext e3) hi' fun g w4 e4 hg v4 => ?_
    have hmem := List.getElem_mem hi'
    generalize ds[i]'hi' = d at v4 hmem
    have hln := (h.ok d hmem).ln
    have hs := hsm d hmem
    have hd := Ext.drew w4
    refine ⟨fun y => Ext w4 y, hd, ?_⟩
    refine ldDQ_i (d := d) (fun y hy => v4.ext hy) ?_
    refine ldDQ_i (d := d) (fun y hy => v4.ext hy) ?_
    refine dRight_s (d := d) hln hs fun w5 e5 => ?_
    refine more_i (hd.trans e5) ?_
    refine mDescr_s (d := d) fun w6 e6 => ?_
    refine rdRight_s (d := d) hln hs fun w7 e7 => ?_
    refine cond_i (fun h => by simp at h) (fun _ => ?_)
    refine hag _ w7 ⟨((e3.trans e4).trans (hd.trans e5)).trans (e6.trans e7), i + 1, by omega, ?_⟩ ?_
    · simp only [wrap_i64 (x := (i : Int) + 1) (by omega) (by omega)]; omega
    · simp only [wrap_i64 (x := (i : Int) + 1) (by omega) (by omega)]; omega
  have h3 := h.ext e3
  by_cases he : S.encErr (ds.map DM.pure) = 0
  · refine dEncode_s h3 (by omega) hsm (fun hne => absurd he hne) fun _ r4 w4 e4 o4 => ?_
    have h4 := h3.ext e4
    refine descrs_s h4 (by omega) fun v5 w5 e5 h5 => ?_
    refine rEncode_s h5 (by omega) hsm (fun hne => absurd he hne) fun _ r6 w6 e6 o6 => ?_
    have o46 := (o4.ext e5).ext e6
    refine join_i (fun b w' => b = false ∧ w6 = w') ?_ fun J hJ => ?_
    rotate_left
    · refine cond_i (fun h => by simp at h) (fun _ => ?_)
      refine b2s_i o46.rd (b2s_i o6.rd ?_)
      exact hJ _ _ ⟨by simp, rfl⟩
    rintro b w' ⟨rfl, rfl⟩
    refine cond_i (fun h => by cases h) (fun _ => ?_)
    refine cond_i (fun h => by simp at h) (fun _ => ?_)
    have hround := S.pars_round he (Nat.lt_succ_self (S.encs (ds.map DM.pure)).length)
    obtain ⟨q1, q2, q3⟩ := S.encErr_ok he
    have hll := S.encs_take_le q2 (ds.map DM.pure).length
    rw [List.take_length] at hll
    rw [List.length_map] at hll q1
    refine dParse_s o46.rd (by omega) (fun hne => absurd (by rw [hround]) hne) fun _ r7 w7 es e7 hps hfr => ?_
    rw [hround] at hps
    have E6 := ((e3.trans e4).trans e5).trans e6
    have h7 := ((h4.ext e5).ext e6).ext e7
    refine joinAnd (x := true) (fun w8 e8 => hK w8 ((E6.trans e7).trans e8)) fun J hJ _ => ?_
    refine sames_s h7 hfr.ds (by omega) fun w8 e8 => ?_
    rw [decide_eq_true hps.symm]
    exact hJ w8 e8
  · refine dEncode_s h3 (by omega) hsm (fun _ w4 e4 => ?_) (fun h0 => absurd h0 he)
    have h4 := h3.ext e4
    refine descrs_s h4 (by omega) fun v5 w5 e5 h5 => ?_
    refine rEncode_s h5 (by omega) hsm (fun _ w6 e6 => ?_) (fun h0 => absurd h0 he)
    refine join_i (fun b w' => b = false ∧ w6 = w') ?_ fun J hJ => ?_
    rotate_left
    · refine cond_i (fun h => by simp at h) (fun _ => ?_)
      refine b2s_i (s := Sl.nil) (bs := []) (Rd.nilSl _ _) (b2s_i (s := Sl.nil) (bs := []) (Rd.nilSl _ _) ?_)
      exact hJ _ _ ⟨by simp, rfl⟩
    rintro b w' ⟨rfl, rfl⟩
    refine cond_i (fun h => by cases h) (fun _ => ?_)
    exact cond_i (fun _ => hK w6 (((e3.trans e4).trans e5).trans e6)) (fun h => by
      have : S.encErr (ds.map DM.pure) = 0 := by simpa using h
      exact absurd this he)
theorem DescrParses_s {p0 : Sl} {b : List UInt8} {K : Bool → World → Prop} {w : World} (hs : Bts w p0 b) (hK : ∀ w', Ext w w' → K true w') :
    callS Try.prog 4 #[.slice p0.a p0.len p0.cap] [.one .bool] K w := by
  refine f4_ok ?_
  unfold f4
  have hbl := Bts.len hs
  refine anchor12_s fun w1 e1 => ?_
  refine cond_i (fun h => by cases h) (fun _ => ?_)
  refine cond_i (fun _ => hK w1 e1) (fun hc => ?_)
  have hb : b.length ≤ 4000 := by have : ¬ (p0.len : Int) > 4000 := of_decide_eq_false hc
                                  omega
  have hs1 := hs.ext e1
  by_cases hR : (S.pars (b.length + 1) [] b).2 = 0
  · refine dParse_s hs1 (by omega) (fun hne => absurd hR hne) fun _ v2 w2 ds e2 hps hfr => ?_
    refine rParse_s (hs1.ext e2) (by omega) (fun hne => absurd hR hne) fun _ v3 w3 es e3 hes hes3 => ?_
    have hde : ds.map DM.pure = es.map DM.pure := by rw [hps, hes]
    have hdl : ds.length = es.length := by have := congrArg List.length hde; rwa [List.length_map, List.length_map] at this
    have hfr3 := hfr.ext e3
    have hl2 := hfr.len
    have hl3 := hes3.len
    refine cond_i (fun h => by rw [hl2, hl3, hdl] at h; simp at h) (fun _ => ?_)
    have E3 := (e1.trans e2).trans e3
    obtain ⟨es', q1, q2, q3, q4, q5⟩ := S.Des.pars_ok (b.length + 1) [] (S.pars (b.length + 1) [] b).1 b (Nat.lt_succ_self _) (by rw [← hR])
    rw [List.nil_append] at q1
    rw [← q1, ← hps] at q2 q3 q4
    have q6 := q5 (by simp)
    rw [← hps, List.length_map] at q6
    refine loop_i (fun (x : Int) w' => Ext w3 w' ∧ ∃ i : Nat, i ≤ ds.length ∧ x = i) (fun x _ => ds.length - x.toNat) ⟨Fr.refl _ _, 0, by omega, rfl⟩ ?_
    rintro x w4 again ⟨e4, i, hi, rfl⟩ hag
    have hfr4 := hfr3.ext e4
    have hes4 := hes3.ext e4
    refine cond_i (fun hlt => ?_) (fun hge => ?_)
    · have hi' : i < ds.length := by have : (i : Int) < (v2.len : Int) := of_decide_eq_true hlt
                                     omega
      have hi2 : i < es.length := by omega
      refine des_at hfr4.ds hi' fun g w5 e5 hg v5 => ?_
      have hmem := List.getElem_mem hi'
      have hmem2 := List.getElem_mem hi2
      have hp : (es.map DM.cells)[i]? = some (es[i]'hi2).cells := by simp [hi2]
      have hpe : (ds[i]'hi').pure = (es[i]'hi2).pure := by
        have h1 : (ds.map DM.pure)[i]? = (es.map DM.pure)[i]? := by rw [hde]
        simpa [hi', hi2] using h1
      generalize ds[i]'hi' = d at v5 hmem hpe
      generalize es[i]'hi2 = o at hp hmem2 hpe
      have hes5 := hes4.ext e5
      obtain ⟨a, ha⟩ := hes5.rds.some (by omega)
      have hcell := hes5.rds.elem ha hp
      have hd := Ext.drew w5
      refine ⟨fun y => Ext w5 y, hd, ?_⟩
      refine ldDQ_i (d := d) (fun y hy => v5.ext hy) ?_
      refine ixQ_i ha (by omega) (by omega) ?_
      rw [Int.toNat_natCast]
      refine ldAQ_i (n := 11) o.cells rfl (fun y hy j v hv => hy.cell (hcell j v hv) id) ?_
      refine mDescr_s (d := d) fun w6 e6 => ?_
      refine more_i (hd.trans e6) ?_
      have e46 := e5.trans (hd.trans e6)
      refine same_s (a := d) (b := o) ((hfr4.ok d hmem).ext e46) ((hes4.ok o hmem2).ext e46) fun w7 e7 => ?_
      rw [decide_eq_true hpe]
      refine cond_i (fun h => by cases h) (fun _ => ?_)
      refine hag _ w7 ⟨(e4.trans e46).trans e7, i + 1, by omega, ?_⟩ ?_
      · simp only [wrap_i64 (x := (i : Int) + 1) (by omega) (by omega)]; omega
      · simp only [wrap_i64 (x := (i : Int) + 1) (by omega) (by omega)]; omega
    · refine cond_i (fun h => by simp at h) (fun _ => ?_)
      have hsm : ∀ d ∈ ds, d.Sm := fun d hd => DM.sm_of (q3 _ (List.mem_map_of_mem hd))
      have hee : S.encErr (ds.map DM.pure) = 0 := S.encErr_of (by rw [List.length_map]; omega) q3 q4
      refine dEncode_s hfr4.ds (by omega) hsm (fun hne => absurd hee hne) fun _ v5 w5 e5 o5 => ?_
      rw [q2] at o5
      have E5 := (E3.trans e4).trans e5
      refine joinAnd (x := true) (fun w6 e6 => hK w6 (E5.trans e6)) fun J hJ _ => ?_
      refine b2s_i (hs.ext E5) (b2s_i o5.rd ?_)
      rw [beq_self_eq_true]
      exact hJ _ (Fr.refl _ _)
  · refine dParse_s hs1 (by omega) (fun _ w2 e2 => ?_) (fun h0 => absurd h0 hR)
    refine rParse_s (hs1.ext e2) (by omega) (fun _ w3 e3 => ?_) (fun h0 => absurd h0 hR)
    refine cond_i (fun h => by simp at h) (fun _ => ?_)
    refine loop_i (fun (x : Int) w' => w3 = w' ∧ x = 0) (fun x _ => 0) ⟨rfl, rfl⟩ ?_
    rintro x w' again ⟨rfl, rfl⟩ hag
    refine cond_i (fun hlt => ?_) (fun _ => ?_)
    · have : (0 : Int) < ((Sl.nil.len : Nat) : Int) := of_decide_eq_true hlt
      exact absurd this (by decide)
    · exact cond_i (fun _ => hK w3 ((e1.trans e2).trans e3)) (fun h => by
        have : (S.pars (b.length + 1) [] b).2 = 0 := by simpa using h
        exact absurd this hR)
end Go.Proofs.Ytgjbajjggmpmmaa
