/- Layer 10 (drive): the twin's made, one round of its last loop. -/
import Derived.Test.YtjphpadgbhegaaaPly10j
set_option linter.unusedSimpArgs false
set_option linter.unusedVariables false
namespace Go.Proofs.Ytjphpadgbhegaaa
open Go Go.Eng
theorem round_s {w : World} {A gt j g6 : Nat} {r bS xS : Sl} {sB sX : Nat → Sl} {ps : S.PartL} {p : List UInt8 × Int} {again : World → Prop} (h : Fill w A gt j r bS xS sB sX ps) (hA : A ≤ w.heap.size) (v6 : Var w g6 (pc p)) (hg6 : g6 ≠ gt ∧ ¬ bS.inB g6) (hp : ps.getD j ([], 0) = p) (hsz : 64 ≤ p.2 ∧ p.2 ≤ 1048576) (hj : j ≤ 1000)
    (hK : ∀ w' bS' xS' sB' sX', Fr (fun k => k = gt ∨ A ≤ k) w w' → Fill w' A gt (j + 1) r bS' xS' sB' sX' ps → again w') :
    drawS w fun C w =>
              nilS (some (at_ gt 0)) fun a37 =>
              semQ Try.prog C (Instr.loadAt 50 (.pointer (some (a37.add 1)))) (.one .slc) (fun x38 =>
              semQ Try.prog C (Instr.loadAt 2 (.pointer (some (at_ g6 1)))) (.one (.int .i64)) (fun x39 =>
              semS Try.prog (Instr.makeSlice 22 (.int .i64 x39) (.int .i64 x39)) (.one .slc) (fun x40 w =>
              moreS C w (fun C =>
              semS Try.prog (Instr.buildSlice 50 1 #[(0, (.slice x40.a x40.len x40.cap))]) (.one .slc) (fun x41 w =>
              moreS C w (fun C =>
              semS Try.prog (Builtin.append_ #[50, 50] 50 #[(.slice x38.a x38.len x38.cap), (.slice x41.a x41.len x41.cap)]) (.one .slc) (fun r42 w =>
              nilS (some (at_ gt 0)) fun a43 =>
              semU Try.prog (Instr.storeAt 50 (.pointer (some (a43.add 1))) (.slice r42.a r42.len r42.cap)) (fun w =>
              drawS w fun C w =>
              nilS (some (at_ gt 0)) fun a44 =>
              semQ Try.prog C (Instr.loadAt 51 (.pointer (some (a44.add 2)))) (.one .slc) (fun x45 =>
              semQ Try.prog C (Instr.loadAt 2 (.pointer (some (at_ g6 1)))) (.one (.int .i64)) (fun x46 =>
              semS Try.prog (Instr.makeSlice 23 (.int .i64 (IntKind.wrap .i64 (Int.tdiv x46 64))) (.int .i64 (IntKind.wrap .i64 (Int.tdiv x46 64)))) (.one .slc) (fun x47 w =>
              moreS C w (fun C =>
              semS Try.prog (Instr.buildSlice 51 1 #[(0, (.slice x47.a x47.len x47.cap))]) (.one .slc) (fun x48 w =>
              moreS C w (fun C =>
              semS Try.prog (Builtin.append_ #[51, 51] 51 #[(.slice x45.a x45.len x45.cap), (.slice x48.a x48.len x48.cap)]) (.one .slc) (fun r49 w =>
              nilS (some (at_ gt 0)) fun a50 =>
              semU Try.prog (Instr.storeAt 51 (.pointer (some (a50.add 2))) (.slice r49.a r49.len r49.cap)) (fun w =>
              again w) w) w)) w)) w))) w) w)) w)) w)) := by
  have hd := Ext.drew w
  refine ⟨fun x => Ext w x, hd, ?_⟩
  refine nil_i rfl ?_
  refine ld1Q_i (l := .slc) (o := 1) bS (fun x hx => (h.ext hx).var) rfl ?_
  refine ld1Q_i (l := .int .i64) (o := 1) p.2 (fun x hx => v6.ext hx) rfl ?_
  refine makeB_i (by omega) (by omega) fun y1 w1 e1 o1 => ?_
  have E1 := hd.trans e1
  refine more_i E1 ?_
  refine buildV_i [slV y1] rfl (fun q hq => by simp at hq; subst hq; exact ⟨rfl, rfl⟩) rfl (by omega) fun u2 w2 e2 o2 => ?_
  have E2 := E1.trans e2
  refine more_i E2 ?_
  have h2 := h.ext E2
  have hbl : bS.len = j := by have := h.b.len; simp at this; omega
  have hxl : xS.len = j := by have := h.x.len; simp at this; omega
  have hul : u2.len = 1 := by have := o2.len; simp at this; omega
  have s1 := E1.size
  have s2 := e2.size
  have sd := hd.size
  refine append_i h2.b o2.rd (fun q hq => by simp at hq; subst hq; rfl) (by omega) (by omega) fun b3 w3 f3 o3 _ hin3 => ?_
  have s3 := f3.size
  have hgb : ¬ bS.inB gt := fun q => by have := (h.b.inB q).1; have := h.lt; omega
  have var3 := h2.var.fr f3 hgb
  refine nil_i rfl ?_
  refine st1_i (o := 1) var3 (show 1 < 9 by decide) rfl fun w4 f4 v4 => ?_
  have s4 := f4.size
  have v6_4 := ((v6.ext E2).fr f3 hg6.2).fr f4 (fun e => hg6.1 e)
  have hd4 := Ext.drew w4
  refine ⟨fun x => Ext w4 x, hd4, ?_⟩
  refine nil_i rfl ?_
  refine ld1Q_i (l := .slc) (o := 2) xS (fun x hx => v4.ext hx) rfl ?_
  refine ld1Q_i (l := .int .i64) (o := 1) p.2 (fun x hx => v6_4.ext hx) rfl ?_
  rw [Int.tdiv_eq_ediv_of_nonneg (by omega), wrap_i64 (x := p.2 / 64) (by omega) (by omega)]
  refine make_i (by omega) (by omega) fun y5 w5 e5 o5 hy5 => ?_
  have E5 := hd4.trans e5
  have sd4 := hd4.size
  refine more_i E5 ?_
  refine buildV_i [slV y5] rfl (fun q hq => by simp at hq; subst hq; exact ⟨rfl, rfl⟩) rfl (by omega) fun u6 w6 e6 o6 => ?_
  have E6 := E5.trans e6
  refine more_i E6 ?_
  have s5 := E5.size
  have s6 := e6.size
  have hu6 : u6.len = 1 := by have := o6.len; simp at this; omega
  have ng : ∀ {k}, A ≤ k → ¬ k = gt := fun hk e => by have := h.lt; omega
  -- what stands at w4: the old things but bS
  have keep4 : ∀ {s : Sl} {sz : Nat} {cs : List Value}, Own w A s sz cs → (∀ k, s.inB k → ¬ bS.inB k) → Own w4 A s sz cs := fun ho hs =>
    ((ho.ext E2).fr f3 fun a ha => hs _ ⟨a, ha, rfl⟩).fr f4 fun a ha => ng (ho.inB ⟨a, ha, rfl⟩).1
  have x4 := keep4 h.x fun k hk q => h.d2 k q hk
  refine append_i (x4.ext E6) o6.rd (fun q hq => by simp at hq; subst hq; rfl) (by omega) (by omega) fun x7 w7 f7 o7 _ hin7 => ?_
  have s7 := f7.size
  have hgx : ¬ xS.inB gt := fun q => by have := (h.x.inB q).1; have := h.lt; omega
  have v7 := (v4.ext E6).fr f7 hgx
  refine nil_i rfl ?_
  refine st1_i (o := 2) v7 (show 2 < 9 by decide) rfl fun w8 f8 v8 => ?_
  have s8 := f8.size
  have keep8 : ∀ {s : Sl} {sz : Nat} {cs : List Value}, Own w4 A s sz cs → (∀ k, s.inB k → ¬ xS.inB k) → Own w8 A s sz cs := fun ho hs =>
    ((ho.ext E6).fr f7 fun a ha => hs _ ⟨a, ha, rfl⟩).fr f8 fun a ha => ng (ho.inB ⟨a, ha, rfl⟩).1
  have O {s : Sl} {sz : Nat} {cs : List Value} (ho : Own w A s sz cs) : ∀ k, s.inB k → A ≤ k ∧ k < w.heap.size := fun k hk => ho.inB hk
  have Or := O h.pr
  have Ob := O h.b
  have Ox := O h.x
  have OB : ∀ i, i < j → ∀ k, (sB i).inB k → A ≤ k ∧ k < w.heap.size := fun i hi k hk => Own.inB (h.rb i hi) hk
  have OX : ∀ i, i < j → ∀ k, (sX i).inB k → A ≤ k ∧ k < w.heap.size := fun i hi k hk => Own.inB (h.rx i hi) hk
  have Y1 : ∀ k, y1.inB k → w.heap.size ≤ k ∧ k < w1.heap.size := fun k hk => by have := o1.inB hk; omega
  have Y5 : ∀ k, y5.inB k → w4.heap.size ≤ k ∧ k < w5.heap.size := fun k hk => by have := o5.inB hk; omega
  have B3 : ∀ k, b3.inB k → bS.inB k ∨ (w2.heap.size ≤ k ∧ k < w3.heap.size) := fun k hk => by
    have := (o3.inB hk).2
    rcases hin3 k hk with q | q
    · exact .inl q
    · exact .inr ⟨q, this⟩
  have X7 : ∀ k, x7.inB k → xS.inB k ∨ (w6.heap.size ≤ k ∧ k < w7.heap.size) := fun k hk => by
    have := (o7.inB hk).2
    rcases hin7 k hk with q | q
    · exact .inl q
    · exact .inr ⟨q, this⟩
  have o1_4 : OwnB w4 A y1 (List.replicate p.2.toNat 0) := (((o1.base (B' := A) (by omega)).ext e2).fr f3 fun a ha q => by have := Y1 _ ⟨a, ha, rfl⟩; have := Ob _ q; omega).fr f4 fun a ha e => by
    have e2 : a.block = gt := e; have := Y1 _ ⟨a, ha, rfl⟩; have := h.lt; omega
  have b4 : Own w4 A b3 1 ((List.range (j + 1)).map fun i => slV (if i = j then y1 else sB i)) := by
    have hl : ((List.range j).map fun i => slV (sB i)) ++ [slV y1] = (List.range (j + 1)).map fun i => slV (if i = j then y1 else sB i) := by
      rw [List.range_succ, List.map_append]
      congr 1
      · apply List.map_congr_left
        intro i hi
        have := List.mem_range.1 hi
        rw [if_neg (by omega)]
      · simp
    rw [← hl]
    exact o3.fr f4 fun a ha => ng (o3.inB ⟨a, ha, rfl⟩).1
  have x8 : Own w8 A x7 1 ((List.range (j + 1)).map fun i => slV (if i = j then y5 else sX i)) := by
    have hl : ((List.range j).map fun i => slV (sX i)) ++ [slV y5] = (List.range (j + 1)).map fun i => slV (if i = j then y5 else sX i) := by
      rw [List.range_succ, List.map_append]
      congr 1
      · apply List.map_congr_left
        intro i hi
        have := List.mem_range.1 hi
        rw [if_neg (by omega)]
      · simp
    rw [← hl]
    exact o7.fr f8 fun a ha => ng (o7.inB ⟨a, ha, rfl⟩).1
  have y5o : Own w8 A y5 1 ((List.replicate (p.2.toNat / 64) false).map Value.bool) := by
    have hz : (Builtin.zeroCells (Value.bool false).cells (p.2 / 64).toNat).toList = (List.replicate (p.2.toNat / 64) false).map Value.bool := by
      rw [show (Value.bool false).cells = #[Value.bool false] from rfl, zeroCells_one, List.map_replicate, show (p.2 / 64).toNat = p.2.toNat / 64 by omega]
    have o5' : Own w5 w4.drew.heap.size y5 1 ((List.replicate (p.2.toNat / 64) false).map Value.bool) := by rw [← hz]; exact o5
    exact (((o5'.base (B' := A) (by omega)).ext e6).fr f7 fun a ha q => by have := Y5 _ ⟨a, ha, rfl⟩; have := Ox _ q; omega).fr f8 fun a ha e => by
      have e2 : a.block = gt := e; have := Y5 _ ⟨a, ha, rfl⟩; have := h.lt; omega
  refine hK w8 b3 x7 (fun i => if i = j then y1 else sB i) (fun i => if i = j then y5 else sX i) ?_ ⟨v8, ?_, ?_, x8, fun i hi => ?_, fun i hi => ?_, fun k hk => ⟨fun q => ?_, fun q => ?_⟩, fun k hk q => ?_, fun i hi k hk => ?_, fun i hi k hk => ?_, fun i i' hi hi' hne k hk q => ?_, fun i i' hi hi' hne k hk q => ?_, fun i i' hi hi' k hk q => ?_, h.lt⟩
  · have F4 : Fr (fun k => k = gt ∨ A ≤ k) w w4 := (E2.fr.trans f3 fun k _ q => .inr (Ob k q).1).trans f4 fun k _ e => .inl e
    exact ((F4.then E6).trans f7 fun k _ q => .inr (Ox k q).1).trans f8 fun k _ e => .inl e
  · exact keep8 (keep4 h.pr fun k hk => (h.d1 k hk).1) fun k hk => (h.d1 k hk).2
  · exact keep8 b4 fun k hk q => by
      rcases B3 k hk with q2 | q2
      · exact h.d2 k q2 q
      · have := Ox k q; omega
  · by_cases hij : i = j
    · subst hij
      rw [if_pos rfl, hp]
      exact keep8 o1_4 fun k hk q => by have := Y1 k hk; have := Ox k q; omega
    · rw [if_neg hij]
      exact keep8 (keep4 (h.rb i (by omega)) fun k hk => (h.d3 i (by omega) k hk).2.1) fun k hk => (h.d3 i (by omega) k hk).2.2
  · by_cases hij : i = j
    · subst hij
      rw [if_pos rfl, hp]
      exact y5o
    · rw [if_neg hij]
      exact keep8 (keep4 (h.rx i (by omega)) fun k hk => (h.d4 i (by omega) k hk).2.1) fun k hk => (h.d4 i (by omega) k hk).2.2
  · rcases B3 k q with q2 | q2
    · exact (h.d1 k hk).1 q2
    · have := Or k hk; omega
  · rcases X7 k q with q2 | q2
    · exact (h.d1 k hk).2 q2
    · have := Or k hk; omega
  · rcases B3 k hk with q1 | q1 <;> rcases X7 k q with q2 | q2
    · exact h.d2 k q1 q2
    · have := Ob k q1; omega
    · have := Ox k q2; omega
    · omega
  · by_cases hij : i = j
    · rw [if_pos hij] at hk
      have hy := Y1 k hk
      refine ⟨fun q => by have := Or k q; omega, fun q => ?_, fun q => ?_⟩
      · rcases B3 k q with q2 | q2
        · have := Ob k q2; omega
        · omega
      · rcases X7 k q with q2 | q2
        · have := Ox k q2; omega
        · omega
    · rw [if_neg hij] at hk
      have hb := OB i (by omega) k hk
      have h3 := h.d3 i (by omega) k hk
      refine ⟨h3.1, fun q => ?_, fun q => ?_⟩
      · rcases B3 k q with q2 | q2
        · exact h3.2.1 q2
        · omega
      · rcases X7 k q with q2 | q2
        · exact h3.2.2 q2
        · omega
  · by_cases hij : i = j
    · rw [if_pos hij] at hk
      have hy := Y5 k hk
      refine ⟨fun q => by have := Or k q; omega, fun q => ?_, fun q => ?_⟩
      · rcases B3 k q with q2 | q2
        · have := Ob k q2; omega
        · omega
      · rcases X7 k q with q2 | q2
        · have := Ox k q2; omega
        · omega
    · rw [if_neg hij] at hk
      have hb := OX i (by omega) k hk
      have h3 := h.d4 i (by omega) k hk
      refine ⟨h3.1, fun q => ?_, fun q => ?_⟩
      · rcases B3 k q with q2 | q2
        · exact h3.2.1 q2
        · omega
      · rcases X7 k q with q2 | q2
        · exact h3.2.2 q2
        · omega
  · by_cases hij : i = j
    · rw [if_pos hij] at hk
      rw [if_neg (by omega)] at q
      have := Y1 k hk; have := OB i' (by omega) k q; omega
    · rw [if_neg hij] at hk
      have hb := OB i (by omega) k hk
      by_cases hij' : i' = j
      · rw [if_pos hij'] at q; have := Y1 k q; omega
      · rw [if_neg hij'] at q; exact h.d5 i i' (by omega) (by omega) hne k hk q
  · by_cases hij : i = j
    · rw [if_pos hij] at hk
      rw [if_neg (by omega)] at q
      have := Y5 k hk; have := OX i' (by omega) k q; omega
    · rw [if_neg hij] at hk
      have hb := OX i (by omega) k hk
      by_cases hij' : i' = j
      · rw [if_pos hij'] at q; have := Y5 k q; omega
      · rw [if_neg hij'] at q; exact h.d6 i i' (by omega) (by omega) hne k hk q
  · by_cases hij : i = j
    · rw [if_pos hij] at hk
      have hy := Y1 k hk
      by_cases hij' : i' = j
      · rw [if_pos hij'] at q; have := Y5 k q; omega
      · rw [if_neg hij'] at q; have := OX i' (by omega) k q; omega
    · rw [if_neg hij] at hk
      have hb := OB i (by omega) k hk
      by_cases hij' : i' = j
      · rw [if_pos hij'] at q; have := Y5 k q; omega
      · rw [if_neg hij'] at q; exact h.d7 i i' (by omega) (by omega) k hk q
end Go.Proofs.Ytjphpadgbhegaaa
