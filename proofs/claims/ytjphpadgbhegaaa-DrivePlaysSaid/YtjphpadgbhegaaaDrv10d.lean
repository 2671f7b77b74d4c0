/- Layer 10 (drive): New. -/
import Derived.Test.YtjphpadgbhegaaaDrv10c
import Derived.Test.YtjphpadgbhegaaaNamed
import Derived.Test.YtjphpadgbhegaaaRowLib3
set_option linter.unusedSimpArgs false
set_option linter.unusedVariables false
namespace Go.S
open Go Go.Eng
abbrev PartL := List (List UInt8 × Int)
def partOk (prev : PartL) (p : List UInt8 × Int) : Bool := named p.1 && !(prev.any fun q => q.1 == p.1) && decide (64 ≤ p.2) && decide (p.2 ≤ 1048576) && decide (p.2 % 64 = 0)
def okAt (ps : PartL) (i : Nat) : Bool := partOk (ps.take i) (ps.getD i ([], 0))
def tot (ps : PartL) : Int := (ps.map (·.2)).sum
/-- The error of New. -/
def made (ps : PartL) : Int := if ps.length > 16 then 40 else if (List.range ps.length).all (okAt ps) then (if tot ps > 1048576 then 11 else 0) else 40
theorem tot_take {ps : PartL} {i : Nat} (h : i < ps.length) : tot (ps.take (i + 1)) = tot (ps.take i) + (ps.getD i ([], 0)).2 := by
  unfold tot
  rw [List.take_succ_eq_append_getElem h, List.map_append, List.sum_append]
  congr 1
  simp [h]
theorem made_bad {ps : PartL} {i : Nat} (hl : ps.length ≤ 16) (hi : i < ps.length) (h : okAt ps i = false) : made ps = 40 := by
  unfold made
  rw [if_neg (by omega), if_neg]
  intro ha
  rw [List.all_eq_true.1 ha i (by simpa using hi)] at h; cases h
theorem made_good {ps : PartL} (hl : ps.length ≤ 16) (h : ∀ i, i < ps.length → okAt ps i = true) : made ps = if tot ps > 1048576 then 11 else 0 := by
  unfold made
  rw [if_neg (by omega), if_pos]
  rw [List.all_eq_true]
  intro i hi
  exact h i (by simpa using hi)
/-- A name's place among the first parts. -/
def idx (ps : PartL) (name : List UInt8) : Option Nat := ps.findIdx? fun q => q.1 == name
theorem idx_none {ps : PartL} {name : List UInt8} : idx ps name = none ↔ (ps.any fun q => q.1 == name) = false := by
  unfold idx
  rw [List.findIdx?_eq_none_iff, List.any_eq_false]
  constructor
  · intro h x hx; have := h x hx; simpa using this
  · intro h x hx; have := h x hx; simpa using this
theorem idx_lt {ps : PartL} {name : List UInt8} {j : Nat} (h : idx ps name = some j) : j < ps.length := by
  unfold idx at h
  rw [List.findIdx?_eq_some_iff_getElem] at h
  exact h.1
theorem idx_snoc {ps : PartL} {p : List UInt8 × Int} {name : List UInt8} : idx (ps ++ [p]) name = (idx ps name).or (if p.1 = name then some ps.length else none) := by
  unfold idx
  rw [List.findIdx?_append]
  congr 1
  by_cases h : p.1 = name
  · simp [h]
  · simp [h]
/-- Each one is found at its own place. -/
theorem idx_self {ps : PartL} (h : ∀ i, i < ps.length → okAt ps i = true) {i : Nat} (hi : i < ps.length) : idx ps (ps.getD i ([], 0)).1 = some i := by
  unfold idx
  rw [List.findIdx?_eq_some_iff_getElem]
  refine ⟨hi, by simp [hi], fun j hj => ?_⟩
  have hok := h i hi
  unfold okAt partOk at hok
  simp only [Bool.and_eq_true, Bool.not_eq_true', List.any_eq_false] at hok
  have := hok.1.1.1.2 ps[j] (by
    rw [List.mem_take_iff_getElem]
    exact ⟨j, by omega, rfl⟩)
  simpa [hi] using this
theorem at?_fresh (ps : PartL) (name : List UInt8) : (Drv.fresh ps).at? name = idx ps name := by
  unfold Drv.at? Drv.fresh idx
  rw [List.findIdx?_map]; rfl
end Go.S
namespace Go.Proofs.Ytjphpadgbhegaaa
open Go Go.Eng
def pc (p : List UInt8 × Int) : List Value := [.string (str p.1), .int .i64 p.2]
/-- A list of partitions in memory. -/
structure PartsIn (w : World) (s : Sl) (ps : S.PartL) : Prop where
  rds : Rds w s 2 (ps.map pc)
  ok : ∀ p ∈ ps, S.I64 p.2 ∧ p.1.length ≤ 9223372036854775807
theorem PartsIn.ext {w w' : World} {s : Sl} {ps : S.PartL} (h : PartsIn w s ps) (e : Ext w w') : PartsIn w' s ps := ⟨h.rds.ext e, h.ok⟩
theorem PartsIn.len {w : World} {s : Sl} {ps : S.PartL} (h : PartsIn w s ps) : s.len = ps.length := by have := h.rds.len; simp at this; omega
/-- 'p := parts[i]', a variable of its own. -/
theorem part_at {w : World} {s : Sl} {ps : S.PartL} {i : Nat} (h : PartsIn w s ps) (hi : i < ps.length) {K : Addr → World → Prop}
    (hK : ∀ g w', Ext w w' → w.heap.size ≤ g → Var w' g (pc (ps.getD i ([], 0))) → K (at_ g 0) w') :
    semS Try.prog (Instr.indexAt 31 (.slice s.a s.len s.cap) (.int .i64 (i : Int))) (.one .adr) (fun x6 w =>
        semS Try.prog (Instr.loadAt 30 (.pointer (some x6))) (.agg [.str, (.int .i64)]) (fun x7 x8 w =>
        semS Try.prog (Instr.alloc 30 true (.tuple #[])) (.one .adr) (fun x9 w =>
        semU Try.prog (Instr.storeAt 30 (.pointer (some x9)) (.agg #[(.string x7), (.int .i64 x8)])) (fun w => K x9 w) w) w) w) w := by
  have hsl := h.len
  obtain ⟨a, ha⟩ := h.rds.some (by omega)
  have hp : (ps.map pc)[i]? = some (pc (ps.getD i ([], 0))) := by simp [hi]
  refine ix_i ha (by omega) (by omega) ?_
  rw [Int.toNat_natCast]
  refine ldA_i (cs := pc (ps.getD i ([], 0))) rfl (h.rds.elem ha hp) ?_
  show semS Try.prog (Instr.alloc 30 true (.tuple #[])) (.one .adr) _ w
  refine alloc_i fun g w1 e1 hg v1 => ?_
  refine stV_i (n := 2) (vs := pc (ps.getD i ([], 0))) 0 v1 rfl (Nat.le_refl 2) (fun v hv => ?_) fun w2 f2 v2 => ?_
  · simp only [pc, List.mem_cons, List.not_mem_nil, or_false] at hv
    rcases hv with rfl | rfl <;> rfl
  · exact hK g w2 (Fr.own1 e1 f2 hg) hg v2
/-- What stands when i partitions are laid. -/
structure Laid (w : World) (B gd m i : Nat) (r : Sl) (ps : S.PartL) (g mb : Nat → Nat) : Prop where
  var : Var w gd [.slice r.a r.len r.cap, .map (some m), .int .i64 (-1), .slice none 0 0, .bool false, .int .i64 0, .int .i64 0]
  map : MapAt w kStr vPtr m (fun name => (S.idx (ps.take i) name).map fun j => at_ (g j) 0)
  bad : ∀ j, j < i → MapAt w kInt Value.bool (mb j) (fun _ => none)
  rng : ∀ j, j < i → B ≤ mb j ∧ mb j < g j ∧ g j < w.heap.size
  inc : ∀ j k, j < k → k < i → g j < mb k
theorem Laid.ext {w w' : World} {B gd m i : Nat} {r : Sl} {ps : S.PartL} {g mb : Nat → Nat} (h : Laid w B gd m i r ps g mb) (e : Ext w w') : Laid w' B gd m i r ps g mb :=
  ⟨h.var.ext e, h.map.ext e, fun j hj => (h.bad j hj).ext e, fun j hj => by have := h.rng j hj; have := e.size; omega, h.inc⟩
theorem Laid.fr {T : Nat → Prop} {w w' : World} {B gd m i : Nat} {r : Sl} {ps : S.PartL} {g mb : Nat → Nat} (h : Laid w B gd m i r ps g mb) (e : Fr T w w') (h1 : ¬ T gd) (h2 : ¬ T m) (h3 : ∀ j, j < i → ¬ T (mb j)) : Laid w' B gd m i r ps g mb :=
  ⟨h.var.fr e h1, h.map.fr e h2, fun j hj => (h.bad j hj).fr e (h3 j hj), fun j hj => by have := h.rng j hj; have := e.size; omega, h.inc⟩

theorem new_t1_s {w : World} {B gd m i g9 : Nat} {r : Sl} {ps : S.PartL} {g mb : Nat → Nat} {p : List UInt8 × Int} {tt : Int} {K : Option Addr → Int → World → Prop} {again : Int × Int → World → Prop} (h : Laid w B gd m i r ps g mb) (hB : B ≤ w.heap.size) (hm : gd ≠ m ∧ gd < B ∧ m < B) (v9 : Var w g9 (pc p)) (hi : i < ps.length) (hp : ps.getD i ([], 0) = p) (hn : S.idx (ps.take i) p.1 = none)
    (hvar : ∀ j, j < i → Var w (g j) [.slice none 0 0, .map (some (mb j))])
    (hK : ∀ w' g' mb', Fr (fun k => k = m) w w' → Laid w' B gd m (i + 1) r ps g' mb' → (∀ j, j < i + 1 → Var w' (g' j) [.slice none 0 0, .map (some (mb' j))]) → again (IntKind.wrap .i64 (tt + p.2), IntKind.wrap .i64 ((i : Int) + 1)) w') :
    f9_t1 false K (at_ g9 0) (at_ gd 0) again (tt, (i : Int)) w := by
  unfold f9_t1
  refine cond_i (fun h => by cases h) (fun _ => ?_)
  refine ld1_i (l := .int .i64) (o := 1) p.2 v9 rfl ?_
  have d := Ext.drew w
  refine ⟨fun x => Ext w x, d, ?_⟩
  refine ld1Q_i (l := .mp) (o := 1) (some m) (fun x hx => h.var.ext hx) rfl ?_
  refine ld1Q_i (l := .str) (o := 0) (str p.1) (fun x hx => v9.ext hx) rfl ?_
  refine makeMap_i fun m1 w1 e1 hm1 hmap1 => ?_
  have E1 := d.trans e1
  refine more_i E1 ?_
  refine box_i fun ga w2 e2 hga va => ?_
  have E2 := E1.trans e2
  refine more_i E2 ?_
  have h2 := h.ext E2
  have hm1l := (hmap1 kInt Value.bool).lt
  have hs1 := E1.size
  have hs2 := e2.size
  have hd1 : w.heap.size ≤ m1 := Nat.le_trans d.size hm1
  refine update_i (k := p.1) (v := at_ ga 0) h2.map rfl rfl fun w3 f3 m3 => ?_
  have hgm : ga ≠ m ∧ m1 ≠ m := by omega
  have hgl := va.lt
  have hs3 := f3.size
  refine hK w3 (fun j => if j = i then ga else g j) (fun j => if j = i then m1 else mb j) (E2.fr.trans' f3) ⟨?_, ?_, ?_, ?_, ?_⟩ ?_
  · exact h2.var.fr f3 hm.1
  · refine m3.congr fun name => ?_
    rw [List.take_succ_eq_append_getElem hi, S.idx_snoc]
    have hpi : ps[i] = p := by rw [← hp]; simp [hi]
    have htl : (ps.take i).length = i := by simp; omega
    rw [hpi, htl]
    by_cases hx : name = p.1
    · subst hx
      rw [if_pos rfl, if_pos rfl, hn]; simp
    · rw [if_neg hx, if_neg (fun e => hx e.symm)]
      cases hidx : S.idx (ps.take i) name with
      | none => rfl
      | some j =>
        have := S.idx_lt hidx
        rw [htl] at this
        simp [show j ≠ i by omega]
  · intro j hj
    by_cases hji : j = i
    · subst hji
      simp only [if_true]
      exact ((hmap1 kInt Value.bool).ext e2).fr f3 hgm.2
    · simp only [hji, if_false]
      have := h.rng j (by omega)
      exact (h2.bad j (by omega)).fr f3 (by omega)
  · intro j hj
    by_cases hji : j = i
    · subst hji; simp only [if_true]; omega
    · simp only [hji, if_false]
      have := h.rng j (by omega)
      omega
  · intro j k hjk hk
    have hji : j ≠ i := by omega
    have := h.rng j (by omega)
    simp only [hji, if_false]
    by_cases hki : k = i
    · subst hki; simp only [if_true]; omega
    · simp only [hki, if_false]; exact h.inc j k hjk (by omega)
  · intro j hj
    by_cases hji : j = i
    · subst hji
      simp only [if_true]
      exact va.fr f3 hgm.1
    · simp only [hji, if_false]
      have := h.rng j (by omega)
      exact ((hvar j (by omega)).ext E2).fr f3 (by omega)
end Go.Proofs.Ytjphpadgbhegaaa
