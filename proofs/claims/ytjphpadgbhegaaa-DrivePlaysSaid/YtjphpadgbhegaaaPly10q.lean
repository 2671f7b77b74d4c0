/- Layer 10 (drive): the law DrivePlays, whole. -/
import Derived.Test.YtjphpadgbhegaaaPly10p
set_option linter.unusedSimpArgs false
set_option linter.unusedVariables false
namespace Go.S
open Go Go.Eng
theorem made_ok {ps : PartL} (h : made ps = 0) : ps.length ≤ 16 ∧ ∀ i, i < ps.length → okAt ps i = true := by
  unfold made at h
  split at h
  · cases h
  · rename_i hl
    refine ⟨by omega, ?_⟩
    split at h
    · rename_i ha
      intro i hi
      exact List.all_eq_true.1 ha i (List.mem_range.2 hi)
    · cases h
theorem okAt_all {ps : PartL} {i : Nat} (h : okAt ps i = true) : named (ps.getD i ([], 0)).1 = true ∧ 64 ≤ (ps.getD i ([], 0)).2 ∧ (ps.getD i ([], 0)).2 ≤ 1048576 ∧ (ps.getD i ([], 0)).2 % 64 = 0 := by
  have h2 := okAt_size h
  unfold okAt partOk at h
  simp only [Bool.and_eq_true, decide_eq_true_eq, beq_iff_eq] at h
  refine ⟨h.1.1.1.1, h2.1, h2.2, ?_⟩
  have := h.2
  first | exact this | omega
end Go.S
namespace Go.Proofs.Ytjphpadgbhegaaa
open Go Go.Eng
theorem DrivePlays_s {p0 p1 : Sl} {ps : S.PartL} {os : List DOp} {K : Bool → World → Prop} {w : World} (hp : PartsIn w p0 ps) (ho : OpsIn w p1 os) (hK : ∀ w', Ext w w' → K true w') :
    callS Try.prog 7 #[.slice p0.a p0.len p0.cap, .slice p1.a p1.len p1.cap] [.one .bool] K w := by
  refine f7_ok ?_
  unfold f7
  have hpl := hp.len
  have hol : p1.len = os.length := by have := ho.rds.len; simp at this; omega
  refine anchor10_s fun wB eB => ?_
  refine cond_i (fun h => by cases h) (fun _ => ?_)
  refine cond_i (fun _ => hK wB eB) (fun hg => ?_)
  simp only [Bool.or_eq_false_iff, decide_eq_false_iff_not] at hg
  have hp1 := hp.ext eB
  have ho1 : OpsIn wB p1 os := ⟨ho.rds.ext eB, fun o h => (ho.ok o h).ext eB⟩
  have hK1 : ∀ w', Ext wB w' → K true w' := fun w' e => hK w' (eB.trans e)
  have hsepP : (ps.map pc).flatten ≠ [] → ∀ a, p0.a = some a → a.block < wB.heap.size := fun hne a ha => rd_lt hp1.rds.rd hne ha
  refine drvNew_s hp1 (fun w2 e2 hm => ?_) fun gd L w2 e2 hm hgd hin d2 => ?_
  · refine box_i fun gt w3 e3 hgt v3 => ?_
    have E3 := e2.trans e3
    refine sizes_s (hp1.ext E3) (by omega) (fun w' e => hK1 w' (E3.trans e)) fun w4 e4 => ?_
    refine tmade_s (B := wB.heap.size) (v3.ext e4) (hp1.ext (E3.trans e4)) ⟨by have := e2.size; omega, by have := (E3.trans e4).size; omega⟩ hsepP (fun w5 e5 _ => ?_) (fun w5 T f5 hm0 _ _ => absurd hm0 hm)
    refine cond_i (fun _ => ?_) (fun h => by simp at h; exact absurd h hm)
    refine join_i (fun b w' => b = true ∧ w5 = w') ?_ fun J hJ => ?_
    · rintro b w' ⟨rfl, rfl⟩
      exact hK1 _ ((E3.trans e4).trans e5)
    · refine cond_i (fun _ => ?_) (fun h => by simp at h)
      exact ptrEq_i (hJ _ _ ⟨rfl, rfl⟩)
  · refine box_i fun gt w3 e3 hgt v3 => ?_
    have E3 := e2.trans e3
    refine sizes_s (hp1.ext E3) (by omega) (fun w' e => hK1 w' (E3.trans e)) fun w4 e4 => ?_
    have E4 := E3.trans e4
    have hs2 := e2.size
    have hs3 := e3.size
    have hs4 := e4.size
    have hgdl := d2.lt (.inl rfl)
    refine tmade_s (B := wB.heap.size) (v3.ext e4) (hp1.ext E4) ⟨by omega, by omega⟩ hsepP (fun w5 e5 h => absurd hm h) (fun w5 T f5 _ t5 hown => ?_)
    have hgd5 : ∀ k, L.inD gd k → k < w2.heap.size := fun k hk => d2.lt hk
    have hs5 := f5.size
    have d5 : DriveAt w5 gd L (S.Drv.fresh ps) := (d2.ext (e3.trans e4)).fr f5 fun k hk e => by have := hgd5 k hk; omega
    obtain ⟨hl16, hok⟩ := S.made_ok hm
    have hfn : (S.Drv.fresh ps).as.length = ps.length := by simp [S.Drv.fresh]
    have har : ∀ i, i < ps.length → ((S.Drv.fresh ps).ar i).b.length = (ps.getD i ([], 0)).2.toNat := fun i hi => by
      unfold S.Drv.ar S.Drv.fresh
      simp [hi]
    have b5 : Both w5 wB.heap.size gd gt L T 0 false Sl.nil (S.Drv.fresh ps) := by
      refine ⟨d5, t5, hin, fun k hk => ⟨by have := hgd5 k hk; omega, fun h => ?_⟩, ⟨by omega, fun i hi => ?_, ?_, ?_⟩, fun i hi => ?_, by omega⟩
      · rw [hfn] at h
        have := hown k h
        have := hgd5 k hk
        omega
      · rw [hfn] at hi
        have := S.okAt_all (hok i hi)
        rw [har i hi]; omega
      · exact ⟨Int.le_refl 0, (by decide : (0 : Int) ≤ 1000000000)⟩
      · exact ⟨Int.le_refl 0, (by decide : (0 : Int) ≤ 1000000000000000)⟩
      · rw [hfn] at hi
        have := S.okAt_all (hok i hi)
        rw [har i hi]; omega
    have E5 : Ext wB w5 := Fr.own1 E4 f5 (by omega)
    refine cond_i (fun h => by cases h) (fun _ => ?_)
    refine join_i (fun b w' => b = false ∧ w5 = w') ?_ fun J hJ => ?_
    rotate_left
    · refine cond_i (fun h => by cases h) (fun _ => ?_)
      exact ptrEq_i (hJ _ _ ⟨rfl, rfl⟩)
    rintro b w' ⟨rfl, rfl⟩
    refine join_i (fun b w' => b = false ∧ Ext w5 w') ?_ fun J hJ => ?_
    rotate_left
    · refine cond_i (fun h => by cases h) (fun _ => ?_)
      refine dParts_s d5 (by omega) fun v w6 e6 hv => ?_
      refine hJ _ _ ⟨?_, e6⟩
      rw [hv, hfn, ← hpl]
      simp
    rintro b w6 ⟨rfl, e6⟩
    refine cond_i (fun h => by cases h) (fun _ => ?_)
    have E6 := E5.trans e6
    refine ops_s E6 (b5.ext e6) ⟨rfl, rfl⟩ ho1 (by omega) hK1 fun w7 L7 lf7 ar7 ks7 D7 e7 b7 sm hlim => ?_
    refine dBoot_s b7.d fun w8 f8 d8 => ?_
    have hdg := b7.dis gd (.inl rfl)
    have hBg := b7.inD gd (.inl rfl)
    have t8 := b7.t.frGd hBg hdg f8
    have hn7 : D7.as.length = ps.length := by rw [sm.n, hfn]
    refine last_s (D1 := D7.boot) (Fr.own1 e7 f8 hBg) hp1 (by omega) t8 d8 ⟨rfl, fun i => rfl, fun n => S.Drv.at?_congr rfl n, rfl⟩ b7.inD b7.dis hn7 (fun i hi => ?_) (fun i hi => ?_) (fun i hi => ?_) ?_ hK1
    · have := S.okAt_all (hok i hi)
      rw [sm.l, har i hi]; omega
    · rw [sm.a, S.at?_fresh]; exact S.idx_self hok hi
    · have := S.okAt_all (hok i hi)
      rw [sm.l, har i hi]; omega
    · rw [sm.a, S.at?_fresh, S.idx_none, List.any_eq_false]
      intro q hq hqe
      obtain ⟨i, hi, rfl⟩ := List.getElem_of_mem hq
      have := (S.okAt_all (hok i hi)).1
      rw [show ps.getD i ([], 0) = ps[i] by simp [hi], beq_iff_eq.1 hqe] at this
      revert this
      decide
end Go.Proofs.Ytjphpadgbhegaaa
