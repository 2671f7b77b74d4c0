/- Layer 10 (drive): the twin's made. -/
import Derived.Test.YtjphpadgbhegaaaPly10k
set_option linter.unusedSimpArgs false
set_option linter.unusedVariables false
namespace Go.Proofs.Ytjphpadgbhegaaa
open Go Go.Eng
theorem pc_take (ps : S.PartL) (i : Nat) : (ps.map pc).flatten.take (i * 2) = ((ps.take i).map pc).flatten := by
  induction ps generalizing i with
  | nil => simp
  | cons p ps ih =>
    cases i with
    | zero => simp
    | succ i =>
      rw [List.map_cons, List.flatten_cons, List.take_succ_cons, List.map_cons, List.flatten_cons, show (i + 1) * 2 = (pc p).length + i * 2 by simp [pc]; omega, List.take_length_add_append, ih]
theorem PartsIn.cut {w : World} {s : Sl} {ps : S.PartL} (h : PartsIn w s ps) {i : Nat} (hi : i ≤ ps.length) : PartsIn w (s.cut 2 0 i) (ps.take i) := by
  have hl := h.len
  have hr := Rd.cut h.rds.rd (l := 0) (hi := i) (by omega) (by omega)
  rw [Nat.zero_mul, List.drop_zero, Nat.sub_zero, pc_take] at hr
  refine ⟨⟨hr, ?_, fun c hc => by obtain ⟨p, _, rfl⟩ := List.mem_map.1 hc; rfl⟩, fun p hp => h.ok p (List.mem_of_mem_take hp)⟩
  have := hr.len
  have hfl : ∀ l : S.PartL, (l.map pc).flatten.length = l.length * 2 := fun l => by
    induction l with
    | nil => rfl
    | cons p l ih => rw [List.map_cons, List.flatten_cons, List.length_append, ih]; simp [pc]; omega
  rw [hfl] at this
  rw [List.length_map]; omega
theorem tmade_s {w : World} {B gt : Nat} {p1 : Sl} {ps : S.PartL} {K : Int → World → Prop} (hv : Var w gt [slV Sl.nil, slV Sl.nil, slV Sl.nil, .int .i64 0, .bool false, slV Sl.nil, .bool false, .int .i64 0, .int .i64 0]) (hp : PartsIn w p1 ps) (hB : B ≤ gt ∧ B ≤ w.heap.size) (hsep : (ps.map pc).flatten ≠ [] → ∀ a, p1.a = some a → a.block < B)
    (hErr : ∀ w', Ext w w' → S.made ps ≠ 0 → K (S.made ps) w')
    (hOk : ∀ w' T, Fr (fun k => k = gt) w w' → S.made ps = 0 → TwinAt w' B gt T 0 false Sl.nil (S.Drv.fresh ps) → (∀ k, T.own ps.length k → w.heap.size ≤ k) → K 0 w') :
    callS Try.prog 18 #[.pointer (some (at_ gt 0)), .slice p1.a p1.len p1.cap] [.one (.int .i64)] K w := by
  refine f18_ok ?_
  unfold f18
  have hpl := hp.len
  have hcap := hp.rds.rd.cap
  refine cond_i (fun hc => ?_) (fun hc => ?_)
  · have hl : ps.length > 16 := by have := of_decide_eq_true hc; omega
    have hm : S.made ps = 40 := by unfold S.made; rw [if_pos hl]
    have := hErr w (Fr.refl _ _) (by rw [hm]; decide)
    rw [hm] at this; exact this
  have hl16 : ps.length ≤ 16 := by have := of_decide_eq_false hc; omega
  have bad : ∀ (i : Nat) (w' : World), i < ps.length → S.okAt ps i = false → Ext w w' → K 40 w' := fun i w' hi ho e => by
    have hm := S.made_bad hl16 hi ho
    have := hErr w' e (by rw [hm]; decide)
    rw [hm] at this; exact this
  refine loop_i (fun (s : Int × Int) w' => Ext w w' ∧ ∃ i : Nat, i ≤ ps.length ∧ s.2 = i ∧ s.1 = S.tot (ps.take i) ∧ ∀ j, j < i → S.okAt ps j = true) (fun s _ => ps.length - s.2.toNat) ⟨Fr.refl _ _, 0, by omega, rfl, by simp [S.tot], fun j hj => by omega⟩ ?_
  rintro ⟨tt, i'⟩ w1 again ⟨e1, i, hi, hi', htt, hok⟩ hag
  dsimp only at hi' htt ⊢
  subst hi'
  have hb := S.tot_bound i hi hok
  refine cond_i (fun hlt => ?_) (fun hge => ?_)
  · have hilt : i < ps.length := by have := of_decide_eq_true hlt; omega
    refine part_at (hp.ext e1) hilt fun g2 w2 e2 hg2 v2 => ?_
    have hmem : ps.getD i ([], 0) ∈ ps := by
      rw [List.getD_eq_getElem?_getD, List.getElem?_eq_getElem hilt]; exact List.getElem_mem hilt
    have hokp := hp.ok _ hmem
    have hdef : S.okAt ps i = S.partOk (ps.take i) (ps.getD i ([], 0)) := rfl
    have htot := S.tot_take hilt
    generalize ps.getD i ([], 0) = p at v2 hokp hdef htot
    have e12 := e1.trans e2
    refine ld1_i (l := .str) (o := 0) (str p.1) v2 rfl ?_
    refine named10_s (by rw [str_size]; exact hokp.2) ?_
    rw [str_toList]
    have L2 : ∀ {K : Int → World → Prop}, K p.2 w2 → semS Try.prog (Instr.loadAt 2 (.pointer (some (at_ g2 1)))) (.one (.int .i64)) K w2 := fun h => ld1_i (l := .int .i64) (o := 1) p.2 v2 rfl h
    refine join_i (fun c w' => c = (!S.named p.1 || decide (p.2 < 64)) ∧ w2 = w') ?_ fun J hJ =>
      cond_i (fun hc => hJ _ _ ⟨by rw [hc]; rfl, rfl⟩) (fun hc => L2 (hJ _ _ ⟨by rw [hc]; rfl, rfl⟩))
    rintro c0 w' ⟨hc0, rfl⟩
    refine join_i (fun c w' => c = (c0 || decide (p.2 > 1048576)) ∧ w2 = w') ?_ fun J hJ =>
      cond_i (fun hc => hJ _ _ ⟨by rw [hc]; rfl, rfl⟩) (fun hc => L2 (hJ _ _ ⟨by rw [hc]; rfl, rfl⟩))
    rintro c1 w' ⟨hc1, rfl⟩
    refine join_i (fun c w' => c = (c1 || (Int.tmod p.2 64 != 0)) ∧ w2 = w') ?_ fun J hJ =>
      cond_i (fun hc => hJ _ _ ⟨by rw [hc]; rfl, rfl⟩) (fun hc => L2 (hJ _ _ ⟨by rw [hc]; rfl, rfl⟩))
    rintro c2 w' ⟨hc2, rfl⟩
    subst hc0 hc1
    have hm64 : Int.tmod p.2 64 = 0 ↔ p.2 % 64 = 0 := by rw [← Int.dvd_iff_tmod_eq_zero, Int.dvd_iff_emod_eq_zero]
    refine cond_i (fun hc => ?_) (fun hc => ?_)
    · rw [hc] at hc2
      refine bad i w2 hilt ?_ e12
      rw [hdef, Bool.eq_false_iff]
      intro ho
      unfold S.partOk at ho
      simp only [Bool.and_eq_true, decide_eq_true_eq] at ho
      obtain ⟨⟨⟨⟨q1, q2⟩, q3⟩, q4⟩, q5⟩ := ho
      have := hc2.symm
      simp only [Bool.or_eq_true, decide_eq_true_eq, bne_iff_ne, ne_eq, hm64, q1] at this
      simp at this
      omega
    · rw [hc] at hc2
      have hgood : S.named p.1 = true ∧ 64 ≤ p.2 ∧ p.2 ≤ 1048576 ∧ p.2 % 64 = 0 := by
        have := hc2.symm
        simp only [Bool.or_eq_false_iff, decide_eq_false_iff_not, bne_eq_false_iff_eq, hm64] at this
        obtain ⟨⟨⟨q1, q2⟩, q3⟩, q4⟩ := this
        exact ⟨by simpa using q1, by omega, by omega, q4⟩
      refine slHi_i (by omega) (by omega) ?_
      rw [Int.toNat_natCast]
      have hcut := ((hp.ext e1).cut (i := i) (by omega)).ext e2
      have hcl := hcut.len
      rw [List.length_take] at hcl
      refine loop_i (fun (x : Int) w' => Ext w2 w' ∧ ∃ k : Nat, k ≤ i ∧ x = k ∧ ∀ j, j < k → ((ps.getD j ([], 0)).1 == p.1) = false) (fun x _ => i - x.toNat) ⟨Fr.refl _ _, 0, by omega, rfl, fun j hj => by omega⟩ ?_
      rintro x w3 again2 ⟨e3, k, hk, rfl, hno⟩ hag2
      refine cond_i (fun hlt2 => ?_) (fun hge2 => ?_)
      · have hki : k < i := by have := of_decide_eq_true hlt2; omega
        refine part_at (hcut.ext e3) (by rw [List.length_take]; omega) fun g4 w4 e4 hg4 v4 => ?_
        have hg : (ps.take i).getD k ([], 0) = ps.getD k ([], 0) := by
          rw [List.getD_eq_getElem?_getD, List.getElem?_take, if_pos hki, ← List.getD_eq_getElem?_getD]
        rw [hg] at v4
        refine ld1_i (l := .str) (o := 0) (str (ps.getD k ([], 0)).1) v4 rfl ?_
        refine ld1_i (l := .str) (o := 0) (str p.1) (v2.ext (e3.trans e4)) rfl ?_
        rw [str_toList, str_toList]
        refine cond_i (fun heq => ?_) (fun hne => ?_)
        · refine bad i w4 hilt ?_ ((e12.trans e3).trans e4)
          rw [hdef, Bool.eq_false_iff]
          intro ho
          unfold S.partOk at ho
          simp only [Bool.and_eq_true] at ho
          have hany : ((ps.take i).any fun q => q.1 == p.1) = true := by
            rw [List.any_eq_true]
            refine ⟨ps.getD k ([], 0), ?_, heq⟩
            rw [← hg, List.getD_eq_getElem?_getD, List.getElem?_eq_getElem (by rw [List.length_take]; omega)]
            exact List.getElem_mem _
          have := ho.1.1.1.2
          rw [hany] at this; cases this
        · refine hag2 _ w4 ⟨e3.trans e4, k + 1, by omega, ?_, fun j hj => ?_⟩ ?_
          · simp only [wrap_i64 (x := (k : Int) + 1) (by omega) (by omega)]; omega
          · by_cases hjk : j = k
            · subst hjk; exact hne
            · exact hno j (by omega)
          · simp only [wrap_i64 (x := (k : Int) + 1) (by omega) (by omega)]; omega
      · have hki : k = i := by have := of_decide_eq_false hge2; omega
        subst hki
        refine ld1_i (l := .int .i64) (o := 1) p.2 (v2.ext e3) rfl ?_
        have hoki : S.okAt ps k = true := by
          rw [hdef]
          unfold S.partOk
          have hany : ((ps.take k).any fun q => q.1 == p.1) = false := by
            rw [List.any_eq_false]
            intro q hq
            obtain ⟨j, hj, rfl⟩ := List.getElem_of_mem hq
            rw [List.length_take] at hj
            have := hno j (by omega)
            rw [List.getD_eq_getElem?_getD, List.getElem?_eq_getElem (by omega)] at this
            simpa using this
          rw [hany, hgood.1]
          simp only [Bool.true_and, Bool.not_false, Bool.and_eq_true, decide_eq_true_eq]
          exact ⟨⟨hgood.2.1, hgood.2.2.1⟩, hgood.2.2.2⟩
        refine hag _ w3 ⟨e12.trans e3, k + 1, by omega, ?_, ?_, fun j hj => ?_⟩ ?_
        · simp only [wrap_i64 (x := (k : Int) + 1) (by omega) (by omega)]; omega
        · rw [htot, htt]; exact wrap_i64 (by omega) (by omega)
        · by_cases hjk : j = k
          · subst hjk; exact hoki
          · exact hok j (by omega)
        · simp only [wrap_i64 (x := (k : Int) + 1) (by omega) (by omega)]; omega
  · have hin : i = ps.length := by have := of_decide_eq_false hge; omega
    subst hin
    rw [List.take_length] at htt
    subst htt
    have hgood := S.made_good hl16 hok
    refine cond_i (fun hc => ?_) (fun hc => ?_)
    · rw [if_pos (of_decide_eq_true hc)] at hgood
      have := hErr w1 e1 (by rw [hgood]; decide)
      rw [hgood] at this; exact this
    · rw [if_neg (of_decide_eq_false hc)] at hgood
      have hp1 := hp.ext e1
      refine buildSlice_i #[] (by simp [Instr.fill]) (by simp) (by omega) fun x w2 e2 o2 hl2 => ?_
      refine append_i o2 (hp1.rds.rd.ext e2) pc_one (by omega) e2.size fun r w3 f3 o3 hrl hin => ?_
      have e3 : Ext w1 w3 := Ext.own e2 f3 fun i hi => (o2.inB hi).1
      have e13 := e1.trans e3
      refine nil_i rfl ?_
      refine st1_i (o := 0) (hv.ext e13) (show 0 < 9 by decide) rfl fun w4 f4 v4 => ?_
      have s1 := e1.size
      have s3 := e3.size
      have s4 := f4.size
      have hgl := hv.lt
      have o3 : Own w3 w1.heap.size r 2 (ps.map pc).flatten := by simpa using o3
      have o4 : Own w4 w.heap.size r 2 (ps.map pc).flatten := (o3.fr f4 fun a ha e => by have e2 : a.block = gt := e; have := (o3.inB ⟨a, ha, rfl⟩).1; omega).base s1
      have nilIn : ∀ k, ¬ Sl.nil.inB k := fun k ⟨a, ha, _⟩ => by cases ha
      have fill0 : Fill w4 w.heap.size gt 0 r Sl.nil Sl.nil (fun _ => Sl.nil) (fun _ => Sl.nil) ps :=
        ⟨v4, o4, Own.nilSl _ _ _, Own.nilSl _ _ _, fun i hi => by omega, fun i hi => by omega, fun k _ => ⟨nilIn k, nilIn k⟩, fun k hk => absurd hk (nilIn k), fun i hi => by omega, fun i hi => by omega, fun i i' hi => by omega, fun i i' hi => by omega, fun i i' hi => by omega, hgl⟩
      have F4 : Fr (fun k => k = gt) w w4 := e13.fr.trans' f4
      have hp4 : ∀ {w'}, Fr (fun k => k = gt ∨ w.heap.size ≤ k) w4 w' → PartsIn w' p1 ps := fun f =>
        ⟨⟨rd_fr_ne (rd_fr_ne hp.rds.rd F4 fun hne a ha e => by have e2 : a.block = gt := e; have := hsep hne a ha; omega) f fun hne a ha e => by
          have := hsep hne a ha
          rcases e with e | e
          · omega
          · omega, hp.rds.len, hp.rds.each⟩, hp.ok⟩
      refine loop_i (fun (y : Int) w' => ∃ (j : Nat) (bS xS : Sl) (sB sX : Nat → Sl), j ≤ ps.length ∧ y = j ∧ Fr (fun k => k = gt ∨ w.heap.size ≤ k) w4 w' ∧ Fill w' w.heap.size gt j r bS xS sB sX ps) (fun y _ => ps.length - y.toNat) ⟨0, _, _, _, _, by omega, rfl, Fr.refl _ _, fill0⟩ ?_
      rintro y w5 again5 ⟨j, bS, xS, sB, sX, hj, rfl, f5, fl⟩ hag5
      have s5 := f5.size
      refine cond_i (fun hlt => ?_) (fun hge => ?_)
      · have hjl : j < ps.length := by have := of_decide_eq_true hlt; omega
        refine part_at (hp4 f5) hjl fun g6 w6 e6 hg6 v6 => ?_
        have hsz := S.okAt_size (hok j hjl)
        refine round_s (g6 := g6) (fl.ext e6) (by have := e6.size; omega) v6 ⟨by have := fl.var.lt; omega, fun q => by have := (fl.b.inB q).2; omega⟩ rfl hsz (by omega) fun w7 bS' xS' sB' sX' f7 fl7 => ?_
        refine hag5 _ w7 ⟨j + 1, bS', xS', sB', sX', by omega, ?_, (f5.then e6).trans' f7, fl7⟩ ?_
        · simp only [wrap_i64 (x := (j : Int) + 1) (by omega) (by omega)]; omega
        · simp only [wrap_i64 (x := (j : Int) + 1) (by omega) (by omega)]; omega
      · have hjl : j = ps.length := by have := of_decide_eq_false hge; omega
        subst hjl
        have hall : ∀ p ∈ ps, 0 ≤ p.2 := fun p hp => by
          obtain ⟨i, hi, rfl⟩ := List.getElem_of_mem hp
          have := S.okAt_size (hok i hi)
          rw [List.getD_eq_getElem?_getD, List.getElem?_eq_getElem hi] at this
          simp only [Option.getD_some] at this
          omega
        have tw := fl.twin (B := B) hB hp.ok hall (by omega)
        refine hOk w5 _ (F4.trans f5 fun k hk q => ?_) hgood tw fun k hk => ?_
        · rcases q with q | q
          · exact q
          · omega
        · rcases hk with hk | hk | hk | ⟨i, hi, hk⟩ | ⟨i, hi, hk⟩
          · exact (fl.pr.inB hk).1
          · exact (fl.b.inB hk).1
          · exact (fl.x.inB hk).1
          · exact (Own.inB (fl.rb i hi) hk).1
          · exact (Own.inB (fl.rx i hi) hk).1
end Go.Proofs.Ytjphpadgbhegaaa
