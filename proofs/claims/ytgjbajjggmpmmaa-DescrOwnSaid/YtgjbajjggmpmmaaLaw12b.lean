/- Layer 12 (descr): the laws DescrCuts, DescrSizes and DescrOwn. -/
import Derived.Test.YtgjbajjggmpmmaaLaw12a
set_option linter.unusedSimpArgs false
set_option linter.unusedVariables false
namespace Go.S
open Go Go.Eng
/-- More steps than bytes change nothing. -/
theorem pars_fuel : ∀ (f g : Nat) (out : List Des) (b : List UInt8), b.length < f → b.length < g → pars f out b = pars g out b
  | 0, _, _, _, h, _ => absurd h (by omega)
  | _ + 1, 0, _, _, _, h => absurd h (by omega)
  | f + 1, g + 1, out, b, hf, hg => by
    rw [pars, pars]
    have hl : (b.drop (16 + num b 8 8)).length = b.length - (16 + num b 8 8) := List.length_drop
    by_cases h0 : b.length = 0
    · rw [if_pos h0, if_pos h0]
    · rw [if_neg h0, if_neg h0, pars_fuel f g _ (b.drop (16 + num b 8 8)) (by omega) (by omega)]
theorem encs_up {ds : List Des} {i j : Nat} (h : i < j) (hj : j ≤ ds.length) : (encs (ds.take i)).length < (encs (ds.take j)).length := by
  obtain ⟨k, rfl⟩ : ∃ k, j = i + (k + 1) := ⟨j - i - 1, by omega⟩
  have hd : ds.drop i = ds[i] :: ds.drop (i + 1) := List.drop_eq_getElem_cons (by omega)
  have := Des.enc_len ds[i]
  rw [List.take_add, hd, List.take_succ_cons]
  simp only [encs, List.flatMap_append, List.flatMap_cons, List.length_append]
  omega
theorem encs_inj {ds : List Des} {i j : Nat} (hi : i ≤ ds.length) (hj : j ≤ ds.length) (h : (encs (ds.take i)).length = (encs (ds.take j)).length) : i = j := by
  rcases Nat.lt_trichotomy i j with h1 | h1 | h1
  · have := encs_up h1 hj; omega
  · exact h1
  · have := encs_up h1 hi; omega
theorem encErr_one {d : Des} (h : d.right = true) : encErr [d] = 0 := encErr_of (by simp) (fun x hx => by rw [List.mem_singleton.1 hx]; exact h) rfl
end Go.S
namespace Go.Proofs.Ytgjbajjggmpmmaa
open Go Go.Eng
theorem DescrCuts_s {p0 : Sl} {p1 : Int} {ds : List DM} {K : Bool → World → Prop} {w : World} (hh : DsIn w p0 ds ∧ ds.length ≤ 9223372036854775807) (h1 : -9223372036854775808 ≤ p1 ∧ p1 ≤ 9223372036854775807) (hK : ∀ w', Ext w w' → K true w') :
    callS Try.prog 5 #[.slice p0.a p0.len p0.cap, .int .i64 p1] [.one .bool] K w := by
  refine f5_ok ?_
  unfold f5
  obtain ⟨h, hn⟩ := hh
  have hsl := h.len
  have hcap := h.rds.rd.cap
  refine anchor12_s fun w1 e1 => ?_
  refine cond_i (fun h => by cases h) (fun _ => ?_)
  refine small_s (h.ext e1) (fun w2 e2 => ?_) (fun h40 hsm w2 e2 => ?_) hn
  · exact cond_i (fun _ => hK w2 (e1.trans e2)) (fun h => by simp at h)
  refine cond_i (fun _ => hK w2 (e1.trans e2)) (fun hc => ?_)
  have hp : 0 ≤ p1 := by have : ¬ p1 < 0 := by simpa using hc
                         omega
  have E2 := e1.trans e2
  have h2 := h.ext E2
  refine dEncode_s h2 (by omega) hsm (fun hne w3 e3 => ?_) (fun h0 r3 w3 e3 o3 => ?_)
  · exact cond_i (fun _ => hK w3 (E2.trans e3)) (fun hc => by simp at hc)
  have hl3 := OwnB.len o3
  refine cond_i (fun _ => hK w3 (E2.trans e3)) (fun hc => ?_)
  have hne : r3.len ≠ 0 := by simpa using hc
  obtain ⟨q1, q2, q3⟩ := S.encErr_ok h0
  have hll := S.encs_take_le q2 (ds.map DM.pure).length
  rw [List.take_length, List.length_map] at hll
  rw [List.length_map] at q1
  obtain ⟨p, rfl⟩ : ∃ p : Nat, p1 = p := ⟨p1.toNat, by omega⟩
  refine rem_i (by omega) ?_
  have hm : Int.tmod (p : Int) (r3.len : Int) = ((p % r3.len : Nat) : Int) := rfl
  rw [hm]
  have hmlt : p % r3.len < r3.len := Nat.mod_lt _ (by omega)
  generalize p % r3.len = n at hmlt
  refine slHi_i (by omega) (by have := o3.cap; omega) ?_
  rw [Int.toNat_natCast]
  have hcut : Bts w3 (r3.cut 1 0 n) ((S.encs (ds.map DM.pure)).take n) := by
    have := Rd.cut o3.rd (l := 0) (hi := n) (by omega) (by omega)
    rw [Nat.zero_mul, List.drop_zero, Nat.sub_zero, Nat.mul_one, ← List.map_take] at this
    exact this
  have hcl : ((S.encs (ds.map DM.pure)).take n).length = n := by rw [List.length_take]; omega
  have hcases := S.Des.pars_cut (ds.map DM.pure) [] n n q2 q3 (by rw [List.length_map]; simp; omega) (by omega)
  rw [S.pars_fuel _ (((S.encs (ds.map DM.pure)).take n).length + 1) [] _ (by rw [hcl, List.length_map]; omega) (by omega), List.length_map] at hcases
  have loop : ∀ (r7 : Sl) (r8 : Int) (w4 : World) (out : List DM), Ext w3 w4 → DsIn w4 r7 out →
      ((∃ k, k < ds.length ∧ n = (S.encs ((ds.map DM.pure).take k)).length ∧ r8 = 0 ∧ out.map DM.pure = (ds.map DM.pure).take k) ∨ ((∀ k, k < ds.length → n ≠ (S.encs ((ds.map DM.pure).take k)).length) ∧ r8 = 10 ∧ out = [])) →
      loopS (σ := Int) (fun x9 w again10 =>
          cond (decide (x9 < (p0.len : Int)))
            (semS Try.prog (Instr.sliceAt 22 (.slice p0.a p0.len p0.cap) none (some (.int .i64 x9)) none) (.one .slc) (fun x11 w =>
            callS Try.prog 13 #[(.slice x11.a x11.len x11.cap)] [(.one .slc), (.one (.int .i64))] (fun r12 r13 w =>
            cond (r13 != 0)
              (K false w)
              (cond ((r12.len : Int) == (n : Int))
                (joinS (σ := Bool) (fun b14 w =>
                  K b14 w) fun J15 =>
                cond (r8 == 0)
                  (semS Try.prog (Instr.sliceAt 22 (.slice p0.a p0.len p0.cap) none (some (.int .i64 x9)) none) (.one .slc) (fun x16 w =>
                    callS Try.prog 17 #[(.slice r7.a r7.len r7.cap), (.slice x16.a x16.len x16.cap)] [(.one .bool)] (fun r17 w =>
                    J15 r17 w) w) w)
                  (J15 false w))
                (again10 (IntKind.wrap .i64 (x9 + 1)) w))) w) w)
            (K ((r8 == 10) && ((r7.len : Int) == 0)) w)) 0 w4 := by
    intro r7 r8 w4 out e4 h7 hR
    have h7l := h7.len
    refine loop_i (fun (x : Int) w' => Ext w4 w' ∧ ∃ i : Nat, i ≤ ds.length ∧ x = i ∧ ∀ j, j < i → n ≠ (S.encs ((ds.map DM.pure).take j)).length) (fun x _ => ds.length - x.toNat) ⟨Fr.refl _ _, 0, by omega, rfl, fun j hj => by omega⟩ ?_
    rintro x w5 again ⟨e5, i, hi, rfl, hpre⟩ hag
    have E5 := (E2.trans e3).trans (e4.trans e5)
    have h5 := h.ext E5
    have h75 := h7.ext e5
    refine cond_i (fun hlt => ?_) (fun hge => ?_)
    · have hi' : i < ds.length := by have : (i : Int) < (p0.len : Int) := of_decide_eq_true hlt
                                     omega
      refine slHi_i (by omega) (by omega) ?_
      rw [Int.toNat_natCast]
      have he : S.encErr ((ds.take i).map DM.pure) = 0 := by rw [List.map_take]; exact S.encErr_take h0 i
      refine dEncode_s (h5.cut hi) (by rw [List.length_take]; omega) (fun d hd => hsm d (List.mem_of_mem_take hd)) (fun hne => absurd he hne) fun _ r12 w6 e6 o6 => ?_
      have hl6 := OwnB.len o6
      rw [List.map_take] at hl6
      refine cond_i (fun h => by simp at h) (fun _ => ?_)
      refine cond_i (fun heq => ?_) (fun hneq => ?_)
      · have heq' : n = (S.encs ((ds.map DM.pure).take i)).length := by
          have : (r12.len : Int) = (n : Int) := by simpa using heq
          omega
        rcases hR with ⟨k, hk, hkn, rfl, hout⟩ | ⟨hno, _⟩
        · have hki : i = k := S.encs_inj (ds := ds.map DM.pure) (by rw [List.length_map]; exact hi) (by rw [List.length_map]; omega) (by rw [← heq', ← hkn])
          subst hki
          refine joinAnd (x := true) (fun w8 e8 => hK w8 ((E5.trans e6).trans e8)) fun J hJ _ => ?_
          refine slHi_i (by omega) (by omega) ?_
          rw [Int.toNat_natCast]
          have hol : out.length ≤ 40 := by
            have := congrArg List.length hout
            rw [List.length_map, List.length_take, List.length_map] at this
            omega
          refine sames_s (h75.ext e6) ((h5.ext e6).cut hi) (by omega) fun w8 e8 => ?_
          rw [List.map_take, decide_eq_true hout]
          exact hJ w8 e8
        · exact absurd heq' (hno i hi')
      · have hneq' : n ≠ (S.encs ((ds.map DM.pure).take i)).length := by
          have : ¬ (r12.len : Int) = (n : Int) := by simpa using hneq
          omega
        refine hag _ w6 ⟨e5.trans e6, i + 1, by omega, ?_, fun j hj => ?_⟩ ?_
        · simp only [wrap_i64 (x := (i : Int) + 1) (by omega) (by omega)]; omega
        · rcases Nat.lt_succ_iff_lt_or_eq.1 hj with hj | rfl
          · exact hpre j hj
          · exact hneq'
        · simp only [wrap_i64 (x := (i : Int) + 1) (by omega) (by omega)]; omega
    · have hi' : i = ds.length := by have : ¬ (i : Int) < (p0.len : Int) := of_decide_eq_false hge
                                     omega
      subst hi'
      rcases hR with ⟨k, hk, hkn, rfl, hout⟩ | ⟨hno, rfl, rfl⟩
      · exact absurd hkn (hpre k hk)
      · rw [h7l]
        exact hK w5 E5
  rcases hcases with ⟨k, hk, hkn, hpk⟩ | ⟨hno, hpk⟩
  · refine dParse_s hcut (by omega) (fun hne => absurd (by rw [hpk]) hne) fun _ r7 w4 es e4 hps hfr => ?_
    rw [hpk, List.nil_append] at hps
    exact loop r7 0 w4 es e4 hfr.ds (.inl ⟨k, hk, hkn, rfl, hps⟩)
  · refine dParse_s hcut (by omega) (fun hne w4 e4 => ?_) (fun h0 => absurd h0 (by rw [hpk]; decide))
    rw [hpk]
    exact loop Sl.nil 10 w4 [] e4 (DsIn.of_own (B := 0) (Own.nilSl _ _ 11) fun d (hd : d ∈ []) => (by cases hd)) (.inr ⟨hno, rfl, rfl⟩)
theorem sz_len {d : DM} (hln : d.Ln) (htx : d.pure.txl ≤ 1440) : IntKind.wrap .i64 (64 + (IntKind.wrap .i64 ((IntKind.wrap .i64 (Int.tdiv (IntKind.wrap .i64 ((IntKind.wrap .i64 ((IntKind.wrap .i64 ((IntKind.wrap .i64 ((IntKind.wrap .i64 (((str d.name).size : Int) + (d.salt.1.len : Int))) + (d.dig.1.len : Int))) + (d.key.1.len : Int))) + (d.val.1.len : Int))) + 7)) 8)) * 8))) = (d.pure.enc.length : Int) := by
  have hz : ((str d.name).size : Int) = (d.name.length : Int) := by rw [str_size]
  have htl : d.pure.txl = d.name.length + d.salt.2.length + d.dig.2.length + d.key.2.length + d.val.2.length := rfl
  have hel := S.Des.enc_len d.pure
  rw [hz, hln.salt, hln.dig, hln.key, hln.val]
  rw [wrap_i64 (x := (d.name.length : Int) + (d.salt.2.length : Int)) (by omega) (by omega), wrap_i64 (x := (d.name.length : Int) + (d.salt.2.length : Int) + (d.dig.2.length : Int)) (by omega) (by omega), wrap_i64 (x := (d.name.length : Int) + (d.salt.2.length : Int) + (d.dig.2.length : Int) + (d.key.2.length : Int)) (by omega) (by omega), wrap_i64 (x := (d.name.length : Int) + (d.salt.2.length : Int) + (d.dig.2.length : Int) + (d.key.2.length : Int) + (d.val.2.length : Int)) (by omega) (by omega)]
  have ht : Int.tdiv ((d.pure.txl : Int) + 7) 8 = (((d.pure.txl + 7) / 8 : Nat) : Int) := rfl
  have hsum : (d.name.length : Int) + (d.salt.2.length : Int) + (d.dig.2.length : Int) + (d.key.2.length : Int) + (d.val.2.length : Int) = (d.pure.txl : Int) := by omega
  rw [hsum, wrap_i64 (x := (d.pure.txl : Int) + 7) (by omega) (by omega), ht, wrap_i64 (x := (((d.pure.txl + 7) / 8 : Nat) : Int)) (by omega) (by omega), wrap_i64 (x := (((d.pure.txl + 7) / 8 : Nat) : Int) * 8) (by omega) (by omega), wrap_i64 (by omega) (by omega), hel]
  omega
theorem DescrSizes_s {p0 : Sl} {ds : List DM} {K : Bool → World → Prop} {w : World} (hh : DsIn w p0 ds ∧ ds.length ≤ 9223372036854775807) (hK : ∀ w', Ext w w' → K true w') :
    callS Try.prog 6 #[.slice p0.a p0.len p0.cap] [.one .bool] K w := by
  refine f6_ok ?_
  unfold f6
  obtain ⟨h, hn⟩ := hh
  have hsl := h.len
  have hcap := h.rds.rd.cap
  refine anchor12_s fun w1 e1 => ?_
  refine cond_i (fun h => by cases h) (fun _ => ?_)
  refine small_s (h.ext e1) (fun w2 e2 => ?_) (fun h40 hsm w2 e2 => ?_) hn
  · exact cond_i (fun _ => hK w2 (e1.trans e2)) (fun h => by simp at h)
  refine cond_i (fun h => by simp at h) (fun _ => ?_)
  have E2 := e1.trans e2
  have h2 := h.ext E2
  refine dEncode_s h2 (by omega) hsm (fun hne w3 e3 => ?_) (fun h0 r3 w3 e3 o3 => ?_)
  · exact cond_i (fun _ => hK w3 (E2.trans e3)) (fun hc => absurd (show S.encErr (ds.map DM.pure) = 0 by simpa using hc) hne)
  have hl3 := OwnB.len o3
  refine cond_i (fun h => by simp at h) (fun _ => ?_)
  obtain ⟨q1, q2, q3⟩ := S.encErr_ok h0
  rw [List.length_map] at q1
  refine loop_i (fun (st : Int × Int) w' => Ext w3 w' ∧ ∃ i : Nat, i ≤ ds.length ∧ st.2 = i ∧ st.1 = ((S.encs ((ds.map DM.pure).take i)).length : Int)) (fun st _ => ds.length - st.2.toNat) ⟨Fr.refl _ _, 0, by omega, rfl, rfl⟩ ?_
  rintro ⟨s, x⟩ w5 again ⟨e5, i, hi, hx, hs⟩ hag
  dsimp only at hx hs ⊢
  subst hx
  subst hs
  have E5 := (E2.trans e3).trans e5
  have h5 := h.ext E5
  refine cond_i (fun hlt => ?_) (fun hge => ?_)
  · have hi' : i < ds.length := by have : (i : Int) < (p0.len : Int) := of_decide_eq_true hlt
                                   omega
    have hsnoc : (S.encs ((ds.map DM.pure).take (i + 1))).length = (S.encs ((ds.map DM.pure).take i)).length + (ds[i]'hi').pure.enc.length := by
      rw [List.take_succ_eq_append_getElem (by rw [List.length_map]; exact hi'), S.encs_snoc, List.length_append, List.getElem_map]
    have hbnd := S.encs_take_le q2 (i + 1)
    rw [List.length_map] at hbnd
    refine des_at h5 hi' fun g w6 e6 hg v6 => ?_
    have hmem := List.getElem_mem hi'
    generalize ds[i]'hi' = d at v6 hmem hsnoc
    have hr := q2 _ (List.mem_map_of_mem hmem)
    have hf := S.Des.fits hr
    have hok := (h5.ok d hmem).ext e6
    have hln := hok.ln
    have hel := S.Des.enc_len d.pure
    have htx := S.Des.txl_le hf
    refine ldN v6 (ldS v6 7 rfl (ldS v6 8 rfl (ldS v6 9 rfl (ldS v6 10 rfl ?_))))
    refine ldD_i v6 ?_
    refine buildSlice_i (sz := 11) d.cells.toArray (by kernel_rfl) rfl (by omega) fun x3 w7 e7 o7 hl7 => ?_
    have hds : DsIn w7 x3 [d] := DsIn.of_own (B := w6.heap.size) (by simpa using o7) fun o ho => by rw [List.mem_singleton.1 ho]; exact hok.ext e7
    have he1 : S.encErr ([d].map DM.pure) = 0 := S.encErr_one hr
    refine dEncode_s hds (by show 1 ≤ _; omega) (fun o ho => by rw [List.mem_singleton.1 ho]; exact hsm d hmem) (fun hne => absurd he1 hne) fun _ r37 w8 e8 o8 => ?_
    have hl8 := OwnB.len o8
    have hone : S.encs ([d].map DM.pure) = d.pure.enc := by simp [S.encs]
    rw [hone] at hl8
    refine cond_i (fun hc => ?_) (fun _ => ?_)
    · exfalso
      have hm : Int.tmod (r37.len : Int) 8 = ((r37.len % 8 : Nat) : Int) := rfl
      rw [hm, hl8, hel] at hc
      have : (64 + (d.pure.txl + 7) / 8 * 8) % 8 = 0 := by omega
      rw [this] at hc
      simp at hc
    · have hval := sz_len hln htx
      rw [hval]
      refine hag _ w8 ⟨((e5.trans e6).trans e7).trans e8, i + 1, by omega, ?_, ?_⟩ ?_
      · simp only [wrap_i64 (x := (i : Int) + 1) (by omega) (by omega)]; omega
      · dsimp only
        rw [hsnoc, wrap_i64 (by omega) (by omega)]; omega
      · simp only [wrap_i64 (x := (i : Int) + 1) (by omega) (by omega)]; omega
  · have hi' : i = ds.length := by have : ¬ (i : Int) < (p0.len : Int) := of_decide_eq_false hge
                                   omega
    subst hi'
    rw [List.take_of_length_le (by rw [List.length_map]; exact Nat.le_refl _), hl3, beq_self_eq_true]
    exact hK w5 E5
theorem DescrOwn_s {p0 : Sl} {ds : List DM} {K : Bool → World → Prop} {w : World} (hh : DsIn w p0 ds ∧ ds.length ≤ 9223372036854775807) (hK : ∀ w', Ext w w' → K true w') :
    callS Try.prog 7 #[.slice p0.a p0.len p0.cap] [.one .bool] K w := by
  refine f7_ok ?_
  unfold f7
  obtain ⟨h, hn⟩ := hh
  have hsl := h.len
  have hcap := h.rds.rd.cap
  refine anchor12_s fun w1 e1 => ?_
  refine cond_i (fun h => by cases h) (fun _ => ?_)
  refine small_s (h.ext e1) (fun w2 e2 => ?_) (fun h40 hsm w2 e2 => ?_) hn
  · exact cond_i (fun _ => hK w2 (e1.trans e2)) (fun h => by simp at h)
  refine cond_i (fun h => by simp at h) (fun _ => ?_)
  have E2 := e1.trans e2
  have h2 := h.ext E2
  refine dEncode_s h2 (by omega) hsm (fun hne w3 e3 => ?_) (fun h0 r3 w3 e3 o3 => ?_)
  · exact cond_i (fun _ => hK w3 (E2.trans e3)) (fun hc => absurd (show S.encErr (ds.map DM.pure) = 0 by simpa using hc) hne)
  have hl3 := OwnB.len o3
  refine cond_i (fun h => by simp at h) (fun _ => ?_)
  obtain ⟨q1, q2, q3⟩ := S.encErr_ok h0
  have hll := S.encs_take_le q2 (ds.map DM.pure).length
  rw [List.take_length, List.length_map] at hll
  rw [List.length_map] at q1
  refine copyV_i o3.rd bytes_one (by omega) fun r6 w4 e4 o4 => ?_
  have hl6 : r6.len = (S.encs (ds.map DM.pure)).length := OwnB.len o4
  have hround := S.pars_round h0 (Nat.lt_succ_self (S.encs (ds.map DM.pure)).length)
  refine dParse_s (b := S.encs (ds.map DM.pure)) o4.rd (by omega) (fun hne => absurd (by rw [hround]) hne) fun _ r7 w5 es e5 hps hfr => ?_
  rw [hround] at hps
  replace hps : es.map DM.pure = ds.map DM.pure := hps
  have o5 := Own.ext o4 e5
  have E3 := E2.trans e3
  have E5 := e4.trans e5
  -- the copy is spoiled
  refine loop_i (fun (x : Int) w' => Fr r6.inB w5 w' ∧ ∃ (i : Nat) (xs : List UInt8), i ≤ xs.length ∧ xs.length = r6.len ∧ x = i ∧ OwnB w' w3.heap.size r6 xs) (fun x _ => r6.len - x.toNat) ⟨Fr.refl _ _, 0, S.encs (ds.map DM.pure), by omega, hl6.symm, rfl, o5⟩ ?_
  rintro x w6 again ⟨f6, i, xs, hi, hxl, rfl, o6⟩ hag
  refine cond_i (fun hlt => ?_) (fun hge => ?_)
  · have hi' : i < xs.length := by have : (i : Int) < (r6.len : Int) := of_decide_eq_true hlt
                                   omega
    have hbv := (xs[i]'hi').toNat_lt
    refine elem_i (l := .int .u8) (x := ((xs[i]'hi').toNat : Int)) o6.rd (by omega) (by omega) ?_ ?_
    · rw [Int.toNat_natCast, List.getElem?_map, List.getElem?_eq_getElem hi']; rfl
    · have hx : xorI .u8 ((xs[i]'hi').toNat : Int) 255 = (((xs[i]'hi') ^^^ 255).toNat : Int) := by
        rw [show (255 : Int) = ((255 : Nat) : Int) from rfl, xor_u8 hbv (by omega)]; rfl
      refine put1_i ((xs[i]'hi') ^^^ 255) o6 (by omega) (by omega) hx fun w7 f7 o7 => ?_
      refine hag _ w7 ⟨f6.trans f7 (fun _ _ h => h), i + 1, _, ?_, ?_, ?_, o7⟩ ?_
      · rw [List.length_set]; omega
      · rw [List.length_set]; exact hxl
      · simp only [wrap_i64 (x := (i : Int) + 1) (by omega) (by omega)]; omega
      · simp only [wrap_i64 (x := (i : Int) + 1) (by omega) (by omega)]; omega
  · -- what was read stands
    have hin : ∀ k, r6.inB k → w3.heap.size ≤ k ∧ k < w4.heap.size := fun k hk => Own.inB o4 hk
    have h7 : DsIn w6 r7 es := DsIn.of_own (B := w4.heap.size) (hfr.own.fr f6 fun a ha hb => by have := (hfr.own.inB ⟨a, ha, rfl⟩).1; have := (hin _ hb).2; omega) fun d hd =>
      (hfr.ok d hd).fr f6 fun k hk hb => by have := (hfr.inB d hd k hk).1.1; have := (hin k hb).2; omega
    have hE : Ext w3 w6 := Ext.own E5 f6 fun k hk => (hin k hk).1
    have h6 := h.ext (E3.trans hE)
    have o36 := Own.ext o3 hE
    have hesl : es.length = ds.length := by have := congrArg List.length hps; rwa [List.length_map, List.length_map] at this
    have hsm7 : ∀ d ∈ es, d.Sm := fun d hd => DM.sm_of (q2 _ (by rw [← hps]; exact List.mem_map_of_mem hd))
    refine dEncode_s h7 (by omega) hsm7 (fun hne => absurd (by rw [hps]; exact h0) hne) fun _ r14 w8 e8 o8 => ?_
    rw [hps] at o8
    have E8 := (E3.trans hE).trans e8
    refine join_i (fun b w' => b = true ∧ w8 = w') ?_ fun J hJ => ?_
    rotate_left
    · refine cond_i (fun _ => ?_) (fun h => by simp at h)
      refine b2s_i o8.rd (b2s_i (Own.ext o36 e8).rd ?_)
      exact hJ _ _ ⟨by simp, rfl⟩
    rintro b w' ⟨rfl, rfl⟩
    refine joinAnd (x := true) (fun w9 e9 => hK w9 (E8.trans e9)) fun J hJ _ => ?_
    refine sames_s (h6.ext e8) (h7.ext e8) (by omega) fun w9 e9 => ?_
    rw [decide_eq_true hps.symm]
    exact hJ w9 e9
end Go.Proofs.Ytgjbajjggmpmmaa
