/- Layer 10 (drive): New, whole. -/
import Derived.Test.YtjphpadgbhegaaaDrv10d
set_option linter.unusedSimpArgs false
set_option linter.unusedVariables false
namespace Go.S
open Go Go.Eng
theorem okAt_size {ps : PartL} {i : Nat} (h : okAt ps i = true) : 64 ≤ (ps.getD i ([], 0)).2 ∧ (ps.getD i ([], 0)).2 ≤ 1048576 := by
  unfold okAt partOk at h
  simp only [Bool.and_eq_true, decide_eq_true_eq] at h
  exact ⟨h.1.1.2, h.1.2⟩
theorem tot_bound {ps : PartL} : ∀ i, i ≤ ps.length → (∀ j, j < i → okAt ps j = true) → 0 ≤ tot (ps.take i) ∧ tot (ps.take i) ≤ 1048576 * (i : Int)
  | 0, _, _ => by simp [tot]
  | i + 1, hi, h => by
    have ih := tot_bound i (by omega) fun j hj => h j (by omega)
    have hs := okAt_size (h i (by omega))
    rw [tot_take (by omega)]
    omega
end Go.S
namespace Go.Proofs.Ytjphpadgbhegaaa
open Go Go.Eng
theorem pc_one {ps : S.PartL} : ∀ v ∈ (ps.map pc).flatten, v.oneCell' = true := fun v hv => by
  obtain ⟨l, hl, hv⟩ := List.mem_flatten.1 hv
  obtain ⟨p, _, rfl⟩ := List.mem_map.1 hl
  simp only [pc, List.mem_cons, List.not_mem_nil, or_false] at hv
  rcases hv with rfl | rfl <;> rfl
theorem cloneP_s {s : Sl} {cs : List Value} {K : Sl → World → Prop} {w : World} (hs : Rd w s 2 cs) (h1 : ∀ v ∈ cs, v.oneCell' = true) (hlen : s.len ≤ 68719476736) (hK : ∀ v w', Ext w w' → Own w' w.heap.size v 2 cs → v.len = s.len → K v w') :
    callS Try.prog 22 #[.slice s.a s.len s.cap] [.one .slc] K w :=
  f22_ok (clone_shape hs h1 hlen fun v w' h1 h2 h3 => hK v w' h1 h2 h3)
/-- What stands when all partitions have their places, and i of them their bytes. -/
structure Filled (w : World) (B3 i n : Nat) (ps : S.PartL) (g mb bb : Nat → Nat) : Prop where
  done : ∀ j, j < i → Var w (g j) [.slice (some (at_ (bb j) 0)) (ps.getD j ([], 0)).2.toNat (ps.getD j ([], 0)).2.toNat, .map (some (mb j))] ∧ Var w (bb j) (List.replicate (ps.getD j ([], 0)).2.toNat (vB 0))
  todo : ∀ j, i ≤ j → j < n → Var w (g j) [.slice none 0 0, .map (some (mb j))]
  rng : ∀ j, j < i → B3 ≤ bb j ∧ bb j < w.heap.size
  inc : ∀ j k, j < k → k < i → bb j < bb k
theorem Filled.ext {w w' : World} {B3 i n : Nat} {ps : S.PartL} {g mb bb : Nat → Nat} (h : Filled w B3 i n ps g mb bb) (e : Ext w w') : Filled w' B3 i n ps g mb bb :=
  ⟨fun j hj => ⟨(h.done j hj).1.ext e, (h.done j hj).2.ext e⟩, fun j h1 h2 => (h.todo j h1 h2).ext e, fun j hj => by have := h.rng j hj; have := e.size; omega, h.inc⟩
theorem fresh_drive {w : World} {B B0 gd m n : Nat} {r : Sl} {ps : S.PartL} {g mb bb : Nat → Nat} (h : Laid w B gd m n r ps g mb) (hn : n = ps.length) (B3 : Nat) (hB3 : ∀ j, j < n → g j < B3) (hf : Filled w B3 n n ps g mb bb) (hm : gd ≠ m ∧ gd < B ∧ m < B ∧ B ≤ B3) (hr : Own w B0 r 2 (ps.map pc).flatten) (hrm : ∀ k, r.inB k → k < B ∧ k ≠ gd ∧ k ≠ m) (hok : ∀ i, i < ps.length → S.okAt ps i = true) :
    DriveAt w gd ⟨r, m, Sl.nil, (List.range n).map fun j => ⟨g j, bb j, mb j⟩⟩ (S.Drv.fresh ps) := by
  subst hn
  have hal : ∀ i, i < ps.length → ((List.range ps.length).map fun j => (⟨g j, bb j, mb j⟩ : AL)).getD i default = ⟨g i, bb i, mb i⟩ := fun i hi => by simp [hi]
  have hlen : (S.Drv.fresh ps).as.length = ps.length := by simp [S.Drv.fresh]
  have har : ∀ i, i < ps.length → (S.Drv.fresh ps).ar i = ⟨(ps.getD i ([], 0)).1, List.replicate (ps.getD i ([], 0)).2.toNat 0, fun _ => false⟩ := fun i hi => by simp [S.Drv.fresh, S.Drv.ar, hi]
  refine ⟨h.var, h.map.congr fun name => ?_, by simp [hlen], fun i hi => ?_, fun i j hi hj hij k hk hk2 => ?_, by simpa [S.Drv.fresh] using Rd.nilSl w 1, ?_, hm.1, fun a ha => ?_, fun k hk => ?_, ⟨(by show (-1 : Int) ≤ -1; decide), (by show (-1 : Int) ≤ 9223372036854775807; decide)⟩, ⟨(by show (0 : Int) ≤ 0; decide), (by show (0 : Int) ≤ 1152921504606846976; decide)⟩, ⟨(by show (0 : Int) ≤ 0; decide), (by show (0 : Int) ≤ 1152921504606846976; decide)⟩⟩
  · rw [S.at?_fresh, List.take_of_length_le (Nat.le_refl _)]
    cases hi : S.idx ps name with
    | none => rfl
    | some i => simp only [Option.map_some]; rw [hal i (S.idx_lt hi)]
  · rw [hlen] at hi
    have hs := S.okAt_size (hok i hi)
    have h1 := hf.done i hi
    have h2 := h.rng i hi
    have h3 := hf.rng i hi
    have h4 := hB3 i hi
    rw [hal i hi, har i hi]
    refine ⟨?_, ?_, ?_, ⟨by show g i ≠ bb i; omega, by show g i ≠ mb i; omega, by show bb i ≠ mb i; omega⟩, by rw [List.length_replicate]; omega⟩
    · simpa using h1.1
    · simpa using h1.2
    · exact (h.bad i hi).congr fun k => by simp
  · rw [hlen] at hi hj
    rw [hal i hi] at hk
    rw [hal j hj] at hk2
    have key : ∀ a b, a < b → b < ps.length → AL.inA ⟨g a, bb a, mb a⟩ k → AL.inA ⟨g b, bb b, mb b⟩ k → False := by
      intro a b hab hb h1 h2
      have q1 := h.rng a (by omega)
      have q2 := h.rng b hb
      have q3 := hf.rng a (by omega)
      have q4 := hf.rng b hb
      have q5 := hB3 a (by omega)
      have q6 := hB3 b hb
      have q7 := h.inc a b hab hb
      have q8 := hf.inc a b hab hb
      rcases h1 with h1 | h1 | h1 <;> rcases h2 with h2 | h2 | h2 <;> simp only at h1 h2 <;> omega
    rcases Nat.lt_or_gt_of_ne hij with hlt | hgt
    · exact key i j hlt hj hk hk2
    · exact key j i hgt hi hk2 hk
  · have e : ((S.Drv.fresh ps).as.flatMap fun a => [Value.string (str a.name), .int .i64 (a.b.length : Int)]) = (ps.map pc).flatten := by
      simp only [S.Drv.fresh, List.flatMap_map]
      rw [List.flatMap_def]
      congr 1
      apply List.map_congr_left
      intro p hp
      obtain ⟨i, hi, rfl⟩ := List.getElem_of_mem hp
      have hs := S.okAt_size (hok i hi)
      simp [hi] at hs
      simp only [pc, List.length_replicate]
      congr 3
      omega
    rw [e]; exact hr.rd
  · obtain ⟨i, hi, rfl⟩ := List.mem_map.1 ha
    have hi' : i < ps.length := by simpa using hi
    have q1 := h.rng i hi'
    have q3 := hf.rng i hi'
    constructor
    · rintro (e | e | e) <;> simp only at e <;> omega
    · rintro (e | e | e) <;> simp only at e <;> omega
  · rcases hk with hk | hk
    · obtain ⟨a, ha, _⟩ := hk; cases ha
    · have q := hrm k hk
      have q2 := (hr.inB hk).2
      refine ⟨q.2.1, q.2.2, fun a ha => ?_, q2⟩
      obtain ⟨i, hi, rfl⟩ := List.mem_map.1 ha
      have hi' : i < ps.length := by simpa using hi
      have q1 := h.rng i hi'
      have q3 := hf.rng i hi'
      rintro (e | e | e) <;> simp only at e <;> omega

theorem drvNew_s {s : Sl} {ps : S.PartL} {K : Option Addr → Int → World → Prop} {w : World} (h : PartsIn w s ps)
    (hBad : ∀ w', Ext w w' → S.made ps ≠ 0 → K none (S.made ps) w')
    (hOk : ∀ gd L w', Ext w w' → S.made ps = 0 → w.heap.size ≤ gd → (∀ k, L.inD gd k → w.heap.size ≤ k) → DriveAt w' gd L (S.Drv.fresh ps) → K (some (at_ gd 0)) 0 w') :
    callS Try.prog 9 #[.slice s.a s.len s.cap] [.one .ptr, .one (.int .i64)] K w := by
  refine f9_ok ?_
  unfold f9
  have hsl := h.len
  refine cond_i (fun hgt => ?_) (fun hle => ?_)
  · have h16 : ps.length > 16 := by have := of_decide_eq_true hgt; omega
    have hm : S.made ps = 40 := by unfold S.made; rw [if_pos h16]
    have := hBad w (Fr.refl _ _) (by rw [hm]; decide)
    rw [hm] at this; exact this
  have h16 : ps.length ≤ 16 := by have := of_decide_eq_false hle; omega
  refine cloneP_s h.rds.rd pc_one (by omega) fun r w1 e1 o1 _ => ?_
  refine makeMap_i fun m w2 e2 hm2 hmap => ?_
  refine box_i fun gd w3 e3 hgd v3 => ?_
  have hml := (hmap kStr vPtr).lt
  have hgl := v3.lt
  have s1 := e1.size
  have s2 := e2.size
  have s3 := e3.size
  have E3 := (e1.trans e2).trans e3
  have hrin : ∀ k, r.inB k → w.heap.size ≤ k ∧ k < w1.heap.size := fun k hk => o1.inB hk
  have hrm : ∀ k, r.inB k → k < w3.heap.size ∧ k ≠ gd ∧ k ≠ m := fun k hk => by have := hrin k hk; omega
  have hm3 : gd ≠ m ∧ gd < w3.heap.size ∧ m < w3.heap.size := by omega
  have hlaid : Laid w3 w3.heap.size gd m 0 r ps (fun _ => 0) (fun _ => 0) :=
    ⟨v3, ((hmap kStr vPtr).ext e3).congr fun name => rfl, fun j hj => by omega, fun j hj => by omega, fun j k h1 h2 => by omega⟩
  refine loop_i (fun (x : Int × Int) w' => ∃ (i : Nat) (g mb : Nat → Nat), i ≤ ps.length ∧ x = (S.tot (ps.take i), (i : Int)) ∧ Ext w w' ∧ w3.heap.size ≤ w'.heap.size ∧ Laid w' w3.heap.size gd m i r ps g mb ∧ (∀ j, j < i → Var w' (g j) [.slice none 0 0, .map (some (mb j))]) ∧ (∀ j, j < i → S.okAt ps j = true) ∧ Own w' w.heap.size r 2 (ps.map pc).flatten)
    (fun x _ => (ps.length - x.2).toNat) ⟨0, _, _, by omega, by simp [S.tot], E3, Nat.le_refl _, hlaid, fun j hj => by omega, fun j hj => by omega, o1.ext (e2.trans e3)⟩ ?_
  rintro x w4 again ⟨i, g, mb, hi, rfl, e4, s4, l4, hv4, hok4, o4⟩ hag
  dsimp only
  refine cond_i (fun hlt => ?_) (fun hge => ?_)
  · have hi' : i < ps.length := by have := of_decide_eq_true hlt; omega
    have hp := h.ok (ps.getD i ([], 0)) (by simp [hi'])
    have hbound := S.tot_bound i hi hok4
    refine part_at (h.ext e4) hi' fun g9 w5 e5 hg9 v9 => ?_
    generalize hpp : ps.getD i ([], 0) = p at hp v9
    have d5 := Ext.drew w5
    refine ⟨fun x => Ext w5 x, d5, ?_⟩
    refine ld1Q_i (l := .str) (o := 0) (str p.1) (fun x hx => v9.ext hx) rfl ?_
    refine dnamed_s (by rw [str_size]; exact hp.2) fun w6 e6 => ?_
    rw [str_toList]
    have E6 := d5.trans e6
    have E46 := e5.trans E6
    refine more_i E6 ?_
    have l6 := l4.ext E46
    have hokd : S.okAt ps i = S.partOk (ps.take i) p := by unfold S.okAt; rw [hpp]
    have hbad : S.okAt ps i = false → ∀ w', Ext w w' → K none 40 w' := fun hb w' e => by
      have hm := S.made_bad h16 hi' hb
      have := hBad w' e (by rw [hm]; decide)
      rw [hm] at this; exact this
    have E6w := e4.trans E46
    have t1bad : S.okAt ps i = false → f9_t1 true K (at_ g9 0) (at_ gd 0) again (S.tot (ps.take i), (i : Int)) w6 := fun hb => by
      unfold f9_t1
      exact cond_i (fun _ => hbad hb w6 E6w) (fun h => by cases h)
    refine cond_i (fun hn => ?_) (fun hn => ?_)
    · have hn' : S.named p.1 = false := by simpa using hn
      exact t1bad (by rw [hokd]; unfold S.partOk; rw [hn']; rfl)
    · have hn' : S.named p.1 = true := by simpa using hn
      refine ld1Q_i (l := .mp) (o := 1) (some m) (fun x hx => (l4.ext (e5.trans hx)).var) rfl ?_
      refine ld1Q_i (l := .str) (o := 0) (str p.1) (fun x hx => v9.ext hx) rfl ?_
      refine lookQ_i (lf := .ptr) ((S.idx (ps.take i) p.1).map fun j => at_ (g j) 0) (fun x hx => (l4.ext (e5.trans hx)).map) rfl (by cases S.idx (ps.take i) p.1 <;> rfl) ?_
      refine ptrNeQ_i ?_
      refine cond_i (fun hx => ?_) (fun hx => ?_)
      · refine t1bad ?_
        rw [hokd]; unfold S.partOk
        have : ((ps.take i).any fun q => q.1 == p.1) = true := by
          rw [← Bool.not_eq_false, ← S.idx_none]
          intro hnone; rw [hnone] at hx; cases hx
        rw [this]; simp
      · have hnone : S.idx (ps.take i) p.1 = none := by
          cases hq : S.idx (ps.take i) p.1 with
          | none => rfl
          | some j => rw [hq] at hx; cases hx
        have hany := S.idx_none.1 hnone
        refine ld1Q_i (l := .int .i64) (o := 1) p.2 (fun x hx => v9.ext hx) rfl ?_
        refine cond_i (fun hx => ?_) (fun hx => ?_)
        · have hlt64 : p.2 < 64 := of_decide_eq_true hx
          refine t1bad ?_
          rw [hokd]; unfold S.partOk
          rw [show decide (64 ≤ p.2) = false from decide_eq_false (by omega)]; simp
        · have h64 : ¬ p.2 < 64 := of_decide_eq_false hx
          refine ld1Q_i (l := .int .i64) (o := 1) p.2 (fun x hx => v9.ext hx) rfl ?_
          refine cond_i (fun hx => ?_) (fun hx => ?_)
          · have hgt : p.2 > 1048576 := of_decide_eq_true hx
            refine t1bad ?_
            rw [hokd]; unfold S.partOk
            rw [show decide (p.2 ≤ 1048576) = false from decide_eq_false (by omega)]; simp
          · have hle : ¬ p.2 > 1048576 := of_decide_eq_false hx
            refine ld1Q_i (l := .int .i64) (o := 1) p.2 (fun x hx => v9.ext hx) rfl ?_
            rw [Int.tmod_eq_emod_of_nonneg (by omega)]
            cases hmod : (p.2 % 64 != 0) with
            | true =>
              refine t1bad ?_
              rw [hokd]; unfold S.partOk
              rw [show decide (p.2 % 64 = 0) = false from decide_eq_false (by simpa using hmod)]; simp
            | false =>
              have hmod' : p.2 % 64 = 0 := by simpa using hmod
              have hgood : S.okAt ps i = true := by
                rw [hokd]; unfold S.partOk
                rw [hn', hany]; simp; omega
              refine new_t1_s l6 (by have := E46.size; omega) hm3 (v9.ext E6) hi' hpp hnone (fun j hj => (hv4 j hj).ext E46) fun w7 g' mb' f7 l7 hv7 => ?_
              rw [wrap_i64 (x := S.tot (ps.take i) + p.2) (by omega) (by omega), wrap_i64 (x := (i : Int) + 1) (by omega) (by omega)]
              refine hag _ w7 ⟨i + 1, g', mb', by omega, ?_, ?_, by have := E46.size; have := f7.size; omega, l7, hv7, ?_, ?_⟩ ?_
              · rw [S.tot_take hi', hpp]; rfl
              · exact Ext.own E6w f7 fun k hk => by omega
              · intro j hj
                by_cases hji : j = i
                · subst hji; exact hgood
                · exact hok4 j (by omega)
              · exact (o4.ext E46).fr f7 fun a ha e => (hrm _ ⟨a, ha, rfl⟩).2.2 e
              · show ((ps.length : Int) - ((i : Int) + 1)).toNat < ((ps.length : Int) - (i : Int)).toNat; omega
  · have hin : i = ps.length := by have := of_decide_eq_false hge; omega
    subst hin
    clear hag hge
    have hmade := S.made_good h16 hok4
    rw [List.take_of_length_le (Nat.le_refl _)]
    refine cond_i (fun hx => ?_) (fun hx => ?_)
    · rw [if_pos (of_decide_eq_true hx)] at hmade
      have := hBad w4 e4 (by rw [hmade]; decide)
      rw [hmade] at this; exact this
    · rw [if_neg (of_decide_eq_false hx)] at hmade
      have hB3 : ∀ j, j < ps.length → g j < w4.heap.size := fun j hj => (l4.rng j hj).2.2
      refine loop_i (fun (x : Int) w' => ∃ (i : Nat) (bb : Nat → Nat), i ≤ ps.length ∧ x = i ∧ Ext w w' ∧ w4.heap.size ≤ w'.heap.size ∧ Laid w' w3.heap.size gd m ps.length r ps g mb ∧ Filled w' w4.heap.size i ps.length ps g mb bb ∧ Own w' w.heap.size r 2 (ps.map pc).flatten)
        (fun x _ => (ps.length - x).toNat) ⟨0, fun _ => 0, by omega, rfl, e4, Nat.le_refl _, l4, ⟨fun j hj => by omega, fun j _ hj => hv4 j hj, fun j hj => by omega, fun j k h1 h2 => by omega⟩, o4⟩ ?_
      rintro x w5 again ⟨i, bb, hi, rfl, e5, s5, l5, f5, o5⟩ hag
      refine cond_i (fun hlt => ?_) (fun hge => ?_)
      · have hi' : i < ps.length := by have := of_decide_eq_true hlt; omega
        have hsz := S.okAt_size (hok4 i hi')
        refine part_at (h.ext e5) hi' fun g9 w6 e6 hg9 v9 => ?_
        have d6 := Ext.drew w6
        have l6 := l5.ext (e6.trans d6)
        have f6 := f5.ext (e6.trans d6)
        refine ⟨fun x => Ext w6 x, d6, ?_⟩
        refine ld1Q_i (l := .mp) (o := 1) (some m) (fun x hx => (l5.ext (e6.trans hx)).var) rfl ?_
        refine ld1Q_i (l := .str) (o := 0) (str (ps.getD i ([], 0)).1) (fun x hx => v9.ext hx) rfl ?_
        refine lookQ_i (lf := .ptr) (some (at_ (g i) 0)) (fun x hx => (l5.ext (e6.trans hx)).map) rfl ?_ ?_
        · rw [List.take_of_length_le (Nat.le_refl _), S.idx_self hok4 hi']; rfl
        refine ld1Q_i (l := .int .i64) (o := 1) (ps.getD i ([], 0)).2 (fun x hx => v9.ext hx) rfl ?_
        refine makeRow_i (by omega) (by omega) fun bg w7 e7 hbg v7 => ?_
        refine more_i (d6.trans e7) ?_
        refine nil_i rfl ?_
        have l7 := l6.ext e7
        have f7 := f6.ext e7
        have hgi := l5.rng i hi'
        have hs6 := e6.size
        have hs7 : w6.heap.size ≤ bg := Nat.le_trans d6.size hbg
        refine st1_i (o := 0) (f7.todo i (Nat.le_refl _) hi') (by simp) rfl fun w8 f8 v8 => ?_
        have hbgl := v7.lt
        have hz : (Builtin.zeroCells (Value.int .u8 0).cells (ps.getD i ([], 0)).2.toNat).toList = List.replicate (ps.getD i ([], 0)).2.toNat (vB 0) := zeroCells_one _ _
        rw [hz] at v7
        have E7 := (e6.trans d6).trans e7
        have gne : ∀ j, j < ps.length → j ≠ i → g j ≠ g i := fun j hj hji e => by
          have q1 := l5.rng j hj
          rcases Nat.lt_or_gt_of_ne hji with h1 | h1
          · have := l5.inc j i h1 hi'; omega
          · have := l5.inc i j h1 hj; omega
        have gmb : ∀ j, j < ps.length → mb j ≠ g i := fun j hj e => by
          have q1 := l5.rng j hj
          rcases Nat.lt_trichotomy j i with h1 | h1 | h1
          · have := l5.inc j i h1 hi'; omega
          · subst h1; omega
          · have := l5.inc i j h1 hj; omega
        refine hag _ w8 ⟨i + 1, fun j => if j = i then bg else bb j, by omega, ?_, ?_, ?_, ?_, ⟨?_, ?_, ?_, ?_⟩, ?_⟩ ?_
        · rw [wrap_i64 (by omega) (by omega)]; omega
        · exact Fr.own1 (e5.trans E7) f8 (by omega)
        · have := E7.size; have := f8.size; omega
        · exact l7.fr f8 (by omega) (by omega) fun j hj => gmb j hj
        · intro j hj
          by_cases hji : j = i
          · subst hji
            simp only [if_true]
            exact ⟨v8, v7.fr f8 (by omega)⟩
          · simp only [hji, if_false]
            have q := f7.done j (by omega)
            have q2 := f5.rng j (by omega)
            have q3 := hB3 i hi'
            exact ⟨q.1.fr f8 (gne j (by omega) hji), q.2.fr f8 (by omega)⟩
        · intro j hj hjn
          exact (f7.todo j (by omega) hjn).fr f8 (gne j hjn (by omega))
        · intro j hj
          have hsz8 := f8.size
          by_cases hji : j = i
          · subst hji; simp only [if_true]; omega
          · simp only [hji, if_false]
            have q2 := f7.rng j (by omega)
            omega
        · intro j k hjk hk
          have hji : j ≠ i := by omega
          simp only [hji, if_false]
          by_cases hki : k = i
          · subst hki
            simp only [if_true]
            have q2 := f5.rng j (by omega)
            omega
          · simp only [hki, if_false]; exact f5.inc j k hjk (by omega)
        · exact (o5.ext E7).fr f8 fun a ha e => by have := (hrm _ ⟨a, ha, rfl⟩).1; omega
        · rw [wrap_i64 (by omega) (by omega)]; omega
      · have hin : i = ps.length := by have := of_decide_eq_false hge; omega
        subst hin
        have hd := fresh_drive l5 rfl w4.heap.size hB3 f5 ⟨hm3.1, hm3.2.1, hm3.2.2, s4⟩ o5 hrm hok4
        refine hOk gd _ w5 e5 hmade (by omega) (fun k hk => ?_) hd
        rcases hk with hk | hk | hk | hk | ⟨a, ha, hk⟩
        · omega
        · have : k = m := hk
          omega
        · obtain ⟨a, ha, _⟩ := hk; cases ha
        · exact (hrin k hk).1
        · obtain ⟨j, hj, rfl⟩ := List.mem_map.1 ha
          have hj' : j < ps.length := by simpa using hj
          have q1 := l5.rng j hj'
          have q2 := f5.rng j hj'
          rcases hk with hk | hk | hk <;> simp only at hk <;> omega
end Go.Proofs.Ytjphpadgbhegaaa
