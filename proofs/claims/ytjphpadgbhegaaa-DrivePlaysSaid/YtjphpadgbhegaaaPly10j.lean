/- Layer 10 (drive): the twin's made, its last loop. -/
import Derived.Test.YtjphpadgbhegaaaPly10i
set_option linter.unusedSimpArgs false
set_option linter.unusedVariables false
namespace Go.Proofs.Ytjphpadgbhegaaa
open Go Go.Eng
/-- What stands when j partitions of the twin are laid. -/
structure Fill (w : World) (A gt j : Nat) (r bS xS : Sl) (sB sX : Nat → Sl) (ps : S.PartL) : Prop where
  var : Var w gt [slV r, slV bS, slV xS, .int .i64 0, .bool false, slV Sl.nil, .bool false, .int .i64 0, .int .i64 0]
  pr : Own w A r 2 (ps.map pc).flatten
  b : Own w A bS 1 ((List.range j).map fun i => slV (sB i))
  x : Own w A xS 1 ((List.range j).map fun i => slV (sX i))
  rb : ∀ i, i < j → OwnB w A (sB i) (List.replicate (ps.getD i ([], 0)).2.toNat 0)
  rx : ∀ i, i < j → Own w A (sX i) 1 ((List.replicate ((ps.getD i ([], 0)).2.toNat / 64) false).map Value.bool)
  d1 : ∀ k, r.inB k → ¬ bS.inB k ∧ ¬ xS.inB k
  d2 : ∀ k, bS.inB k → ¬ xS.inB k
  d3 : ∀ i, i < j → ∀ k, (sB i).inB k → ¬ r.inB k ∧ ¬ bS.inB k ∧ ¬ xS.inB k
  d4 : ∀ i, i < j → ∀ k, (sX i).inB k → ¬ r.inB k ∧ ¬ bS.inB k ∧ ¬ xS.inB k
  d5 : ∀ i i', i < j → i' < j → i ≠ i' → ∀ k, (sB i).inB k → ¬ (sB i').inB k
  d6 : ∀ i i', i < j → i' < j → i ≠ i' → ∀ k, (sX i).inB k → ¬ (sX i').inB k
  d7 : ∀ i i', i < j → i' < j → ∀ k, (sB i).inB k → ¬ (sX i').inB k
  lt : gt < A
section
variable {w w' : World} {A gt j : Nat} {r bS xS : Sl} {sB sX : Nat → Sl} {ps : S.PartL}
theorem Fill.fr {S : Nat → Prop} (h : Fill w A gt j r bS xS sB sX ps) (f : Fr S w w') (hg : ¬ S gt) (hs : ∀ k, A ≤ k → k < w.heap.size → ¬ S k) : Fill w' A gt j r bS xS sB sX ps :=
  ⟨h.var.fr f hg, h.pr.fr f fun a ha => hs _ (h.pr.inB ⟨a, ha, rfl⟩).1 (h.pr.inB ⟨a, ha, rfl⟩).2, h.b.fr f fun a ha => hs _ (h.b.inB ⟨a, ha, rfl⟩).1 (h.b.inB ⟨a, ha, rfl⟩).2, h.x.fr f fun a ha => hs _ (h.x.inB ⟨a, ha, rfl⟩).1 (h.x.inB ⟨a, ha, rfl⟩).2,
   fun i hi => (h.rb i hi).fr f fun a ha => hs _ (Own.inB (h.rb i hi) ⟨a, ha, rfl⟩).1 (Own.inB (h.rb i hi) ⟨a, ha, rfl⟩).2, fun i hi => (h.rx i hi).fr f fun a ha => hs _ (Own.inB (h.rx i hi) ⟨a, ha, rfl⟩).1 (Own.inB (h.rx i hi) ⟨a, ha, rfl⟩).2,
   h.d1, h.d2, h.d3, h.d4, h.d5, h.d6, h.d7, h.lt⟩
theorem Fill.ext (h : Fill w A gt j r bS xS sB sX ps) (e : Ext w w') : Fill w' A gt j r bS xS sB sX ps := h.fr e id fun _ _ _ => id
theorem badL_fresh (nm : List UInt8) (k : Nat) : badL ⟨nm, List.replicate k 0, fun _ => false⟩ = List.replicate (k / 64) false := by
  unfold badL
  apply List.ext_getElem?
  intro i
  by_cases hi : i < k / 64
  · simp [hi, List.getElem?_replicate]
  · rw [List.getElem?_eq_none (by simp; omega), List.getElem?_eq_none (by simp; omega)]
/-- All laid: the twin stands for the fresh drive. -/
theorem Fill.twin (h : Fill w A gt ps.length r bS xS sB sX ps) {B : Nat} (hB : B ≤ gt ∧ B ≤ A) (hps : ∀ p ∈ ps, S.I64 p.2 ∧ p.1.length ≤ 9223372036854775807) (h0 : ∀ p ∈ ps, 0 ≤ p.2) (hrl : r.len = ps.length) :
    TwinAt w B gt ⟨r, bS, xS, sB, sX⟩ 0 false Sl.nil (S.Drv.fresh ps) := by
  have hn : (S.Drv.fresh ps).as.length = ps.length := by simp [S.Drv.fresh]
  have har : ∀ i, i < ps.length → (S.Drv.fresh ps).ar i = ⟨(ps.getD i ([], 0)).1, List.replicate (ps.getD i ([], 0)).2.toNat 0, fun _ => false⟩ := fun i hi => by
    unfold S.Drv.ar S.Drv.fresh
    simp [hi]
  have hown : ∀ k, TLay.own ⟨r, bS, xS, sB, sX⟩ ps.length k → A ≤ k ∧ k < w.heap.size := fun k hk => by
    rcases hk with hk | hk | hk | ⟨i, hi, hk⟩ | ⟨i, hi, hk⟩
    · exact h.pr.inB hk
    · exact h.b.inB hk
    · exact h.x.inB hk
    · exact Own.inB (h.rb i hi) hk
    · exact Own.inB (h.rx i hi) hk
  have hmap : ((S.Drv.fresh ps).as.map fun a => (a.name, (a.b.length : Int))) = ps := by
    unfold S.Drv.fresh
    simp only [List.map_map]
    conv => rhs; rw [← List.map_id ps]
    apply List.map_congr_left
    intro p hp
    have := h0 p hp
    simp only [Function.comp, List.length_replicate, id]
    rw [Int.toNat_of_nonneg this]
  refine ⟨h.var, ?_, ?_, ?_, fun i hi => ?_, fun i hi => ?_, ?_, ?_, ?_, ?_, ?_, ?_, ?_, ⟨by rfl, fun h => (by cases h), by constructor <;> decide⟩, fun hne => absurd rfl hne, ?_⟩
  · rw [hmap]
    exact ⟨⟨h.pr.rd, by rw [List.length_map, hrl], fun c hc => by obtain ⟨p, _, rfl⟩ := List.mem_map.1 hc; rfl⟩, hps⟩
  · rw [hn]; exact h.b.rd
  · rw [hn]; exact h.x.rd
  · rw [hn] at hi; rw [har i hi]; exact (h.rb i hi).base hB.2
  · rw [hn] at hi; rw [har i hi, badL_fresh]; exact (h.rx i hi).base hB.2
  · exact (Own.nilSl w 0 1).rd
  · rw [hn]; exact ⟨hB.1, fun k hk => Nat.le_trans hB.2 (hown k hk).1⟩
  · rw [hn]; exact fun k hk e => by have := (hown k hk).1; have := h.lt; omega
  · rw [hn]
    intro k hk i hi
    rcases hk with hk | hk | hk
    · exact ⟨fun q => (h.d3 i hi k q).1 hk, fun q => (h.d4 i hi k q).1 hk⟩
    · exact ⟨fun q => (h.d3 i hi k q).2.1 hk, fun q => (h.d4 i hi k q).2.1 hk⟩
    · exact ⟨fun q => (h.d3 i hi k q).2.2 hk, fun q => (h.d4 i hi k q).2.2 hk⟩
  · rw [hn]; exact h.d5
  · rw [hn]; exact h.d6
  · rw [hn]; exact h.d7
  · rw [hn]; exact fun k hk => (hown k hk).2
end
end Go.Proofs.Ytjphpadgbhegaaa
