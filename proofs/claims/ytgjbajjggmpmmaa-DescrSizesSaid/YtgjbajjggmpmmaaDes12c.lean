/- Layer 12 (descr): the document's Right; may two stand beside each other? -/
import Derived.Test.YtgjbajjggmpmmaaDes12b
import Derived.Test.YtgjbajjggmpmmaaRowLib3
set_option linter.unusedSimpArgs false
set_option linter.unusedVariables false
namespace Go.Proofs.Ytgjbajjggmpmmaa
open Go Go.Eng
theorem rRight_t1 {d : DM} {K : Bool → World → Prop} {w : World} {g g2 : Nat} {b : Bool} (hl : d.Ln) (hnm : d.name.length ≤ 100000) (v : Var w g d.cells) (v2 : Var w g2 (shC d.pure.shp)) (hK : ∀ w', Ext w w' → K ((((((b && d.pure.val.length == 0) && S.named d.name) && d.pure.summed) && d.pure.shp.right) && decide (d.off ≥ d.size)) && decide (d.off ≤ 1099511627776)) w') :
    f12_t1 K (at_ g 0) (at_ g2 0) b w := by
  unfold f12_t1
  have zv : ((d.val.1.len : Int) == 0) = (d.pure.val.length == 0) := by rw [hl.val]; exact beq0 _
  refine joinAnd (x := d.pure.val.length == 0) (fun w1 e1 => ?_) fun J hJ _ => ldS v 10 rfl (by rw [zv]; exact hJ _ (Fr.refl _ _))
  refine joinAnd (x := S.named d.name) (fun w2 e2 => ?_) fun J hJ _ => ldN (v.ext e1) (rnamed12_s (by omega) (hJ _ (Fr.refl _ _)))
  have e12 := e1.trans e2
  refine joinAnd (x := d.pure.summed) (fun w3 e3 => ?_) fun J hJ _ => ldD_i (v.ext e12) (summed_s ⟨hl.salt, hl.dig⟩ hJ)
  have e13 := e12.trans e3
  refine joinAnd (x := d.pure.shp.right) (fun w4 e4 => ?_) fun J hJ _ => ldSh_i (v2.ext e13) (rRight_s hJ)
  have e14 := e13.trans e4
  refine joinAnd (x := decide (d.off ≥ d.size)) (fun w5 e5 => ?_) fun J hJ _ => ldI (v.ext e14) 4 rfl (ldI (v.ext e14) 2 rfl (hJ _ (Fr.refl _ _)))
  have e15 := e14.trans e5
  exact joinAnd (x := decide (d.off ≤ 1099511627776)) (fun w6 e6 => hK w6 (e15.trans e6)) fun J hJ _ => ldI (v.ext e15) 4 rfl (hJ _ (Fr.refl _ _))
theorem rdRight_s {d : DM} {K : Bool → World → Prop} {w : World} (hl : d.Ln) (hs : d.Sm) (hK : ∀ w', Ext w w' → K d.pure.right w') :
    callS Try.prog 12 #[.agg d.cells.toArray] [.one .bool] K w := by
  refine f12_ok ?_
  unfold f12
  refine box_i fun g w1 e1 hg v1 => ?_
  have v1 : Var w1 g d.cells := v1
  have hnm := hs.name
  have zs : ((d.salt.1.len : Int) == 0) = (d.pure.salt.length == 0) := by rw [hl.salt]; exact beq0 _
  have zd : ((d.dig.1.len : Int) == 0) = (d.pure.dig.length == 0) := by rw [hl.dig]; exact beq0 _
  have zk : ((d.key.1.len : Int) == 0) = (d.pure.key.length == 0) := by rw [hl.key]; exact beq0 _
  have zv : ((d.val.1.len : Int) == 0) = (d.pure.val.length == 0) := by rw [hl.val]; exact beq0 _
  have lv : decide ((d.val.1.len : Int) ≤ 256) = decide (d.pure.val.length ≤ 256) := decide_eq_decide.2 (by rw [hl.val]; show (d.val.2.length : Int) ≤ 256 ↔ d.val.2.length ≤ 256; omega)
  refine ldI v1 1 rfl ?_
  refine joinAnd (x := d.size == 0) (fun w2 e2 => ?_) fun J hJ _ => ldI v1 2 rfl (hJ _ (Fr.refl _ _))
  refine joinAnd (x := d.pure.salt.length == 0) (fun w3 e3 => ?_) fun J hJ _ => ldS (v1.ext e2) 7 rfl (by rw [zs]; exact hJ _ (Fr.refl _ _))
  have e13 := e2.trans e3
  refine joinAnd (x := d.pure.dig.length == 0) (fun w4 e4 => ?_) fun J hJ _ => ldS (v1.ext e13) 8 rfl (by rw [zd]; exact hJ _ (Fr.refl _ _))
  have e14 := e13.trans e4
  refine ldI (v1.ext e14) 3 rfl ?_
  refine joinAnd (x := d.off == 0) (fun w5 e5 => ?_) fun J hJ _ => ldI (v1.ext e14) 4 rfl (hJ _ (Fr.refl _ _))
  have e15 := e14.trans e5
  refine ldI (v1.ext e15) 5 rfl ?_
  refine joinAnd (x := d.pure.key.length == 0) (fun w6 e6 => ?_) fun J hJ _ => ldS (v1.ext e15) 9 rfl (by rw [zk]; exact hJ _ (Fr.refl _ _))
  have e16 := e15.trans e6
  have v6 := v1.ext e16
  have E6 := e1.trans e16
  have hR : ∀ {K' : Bool → World → Prop} {w' : World}, K' d.pure.right w' → K' (
      if d.kind = 0 then d.pure.sums && d.pure.shape && d.pure.chain && S.named d.name && decide (d.pure.val.length ≤ 256)
      else if d.kind = 1 then d.pure.chain && d.pure.val.length == 0 && S.named d.name && d.pure.summed && d.pure.shp.right && decide (d.off ≥ d.size) && decide (d.off ≤ 1099511627776)
      else if d.kind = 2 then d.pure.shape && d.pure.chain && d.pure.val.length == 0 && S.named d.name && d.pure.summed && decide (d.size ≥ 0) && decide (d.size ≤ 1099511627776)
      else if d.kind = 3 then d.pure.sums && d.pure.shape && d.pure.chain && d.name.length == 0 && decide (d.pure.val.length ≤ 256)
      else if d.kind = 4 then d.pure.sums && d.pure.shape && d.pure.val.length == 0 && S.named d.name && decide (d.loc ≥ 1) && decide (d.loc ≤ 31) && decide (d.pure.key.length ≥ 1) && decide (d.pure.key.length ≤ 1032)
      else false) w' := fun h => h
  refine ldI v6 0 rfl ?_
  refine cond_i (fun h0 => ?_) (fun h0 => ?_)
  · have k0 : d.kind = 0 := by simpa using h0
    refine joinAnd (x := S.named d.name) (fun w7 e7 => ?_) fun J hJ _ => ldN v6 (rnamed12_s (by omega) (hJ _ (Fr.refl _ _)))
    refine joinAnd (x := decide (d.pure.val.length ≤ 256)) (fun w8 e8 => ?_) fun J hJ _ => ldS (v6.ext e7) 10 rfl (by rw [lv]; exact hJ _ (Fr.refl _ _))
    have := hR (hK w8 (E6.trans (e7.trans e8)))
    rw [if_pos k0] at this; exact this
  have k0 : ¬ d.kind = 0 := by simpa using h0
  refine ldI v6 0 rfl ?_
  refine cond_i (fun h1 => ?_) (fun h1 => ?_)
  · have k1 : d.kind = 1 := by simpa using h1
    have hK' : ∀ w', Ext w6 w' → K ((((((d.pure.chain && d.pure.val.length == 0) && S.named d.name) && d.pure.summed) && d.pure.shp.right) && decide (d.off ≥ d.size)) && decide (d.off ≤ 1099511627776)) w' := fun w' e => by
      have := hR (hK w' (E6.trans e))
      rw [if_neg k0, if_pos k1] at this; exact this
    have hd := Ext.drew w6
    refine ⟨fun y => Ext w6 y, hd, ?_⟩
    refine ld1Q_i (l := .int .i64) (o := 2) d.size (fun y hy => v6.ext hy) rfl ?_
    refine ld1Q_i (l := .int .i64) (o := 3) d.blk (fun y hy => v6.ext hy) rfl ?_
    refine ld1Q_i (l := .int .i64) (o := 1) d.alg (fun y hy => v6.ext hy) rfl ?_
    refine ⟨?_, ?_⟩
    · refine rdsz_s ?_
      refine more_i hd ?_
      refine alloc_i fun g2 w7 e7 hg2 v7 => ?_
      refine more_i (hd.trans e7) ?_
      refine stSh_i (x := d.pure.shp) v7 rfl fun w8 f8 v8 => ?_
      have E8 : Ext w6 w8 := Fr.own1 (hd.trans e7) f8 (by have := hd.size; omega)
      exact rRight_t1 hl hnm (v6.ext E8) v8 fun w' e => hK' w' (E8.trans e)
    · refine alloc_i fun g2 w7 e7 hg2 v7 => ?_
      refine more_i (hd.trans e7) ?_
      refine rdsz_s ?_
      refine more_i (hd.trans e7) ?_
      refine stSh_i (x := d.pure.shp) v7 rfl fun w8 f8 v8 => ?_
      have E8 : Ext w6 w8 := Fr.own1 (hd.trans e7) f8 (by have := hd.size; omega)
      exact rRight_t1 hl hnm (v6.ext E8) v8 fun w' e => hK' w' (E8.trans e)
  have k1 : ¬ d.kind = 1 := by simpa using h1
  refine ldI v6 0 rfl ?_
  refine cond_i (fun h2 => ?_) (fun h2 => ?_)
  · have k2 : d.kind = 2 := by simpa using h2
    refine joinAnd (x := d.pure.val.length == 0) (fun w7 e7 => ?_) fun J hJ _ => ldS v6 10 rfl (by rw [zv]; exact hJ _ (Fr.refl _ _))
    refine joinAnd (x := S.named d.name) (fun w8 e8 => ?_) fun J hJ _ => ldN (v6.ext e7) (rnamed12_s (by omega) (hJ _ (Fr.refl _ _)))
    have e78 := e7.trans e8
    refine joinAnd (x := d.pure.summed) (fun w9 e9 => ?_) fun J hJ _ => ldD_i (v6.ext e78) (summed_s ⟨hl.salt, hl.dig⟩ hJ)
    have e79 := e78.trans e9
    refine joinAnd (x := decide (d.size ≥ 0)) (fun w10 e10 => ?_) fun J hJ _ => ldI (v6.ext e79) 2 rfl (hJ _ (Fr.refl _ _))
    have e710 := e79.trans e10
    refine joinAnd (x := decide (d.size ≤ 1099511627776)) (fun w11 e11 => ?_) fun J hJ _ => ldI (v6.ext e710) 2 rfl (hJ _ (Fr.refl _ _))
    have := hR (hK w11 (E6.trans (e710.trans e11)))
    rw [if_neg k0, if_neg k1, if_pos k2] at this; exact this
  have k2 : ¬ d.kind = 2 := by simpa using h2
  refine ldI v6 0 rfl ?_
  refine cond_i (fun h3 => ?_) (fun h3 => ?_)
  · have k3 : d.kind = 3 := by simpa using h3
    refine joinAnd (x := d.name.length == 0) (fun w7 e7 => ?_) fun J hJ _ => ldN v6 (by rw [str_toList, nil_toList, nil_len]; exact hJ _ (Fr.refl _ _))
    refine joinAnd (x := decide (d.pure.val.length ≤ 256)) (fun w8 e8 => ?_) fun J hJ _ => ldS (v6.ext e7) 10 rfl (by rw [lv]; exact hJ _ (Fr.refl _ _))
    have := hR (hK w8 (E6.trans (e7.trans e8)))
    rw [if_neg k0, if_neg k1, if_neg k2, if_pos k3] at this; exact this
  have k3 : ¬ d.kind = 3 := by simpa using h3
  refine ldI v6 0 rfl ?_
  refine cond_i (fun h4 => ?_) (fun h4 => ?_)
  · have k4 : d.kind = 4 := by simpa using h4
    have l1 : decide ((d.key.1.len : Int) ≥ 1) = decide (d.pure.key.length ≥ 1) := decide_eq_decide.2 (by rw [hl.key]; show (d.key.2.length : Int) ≥ 1 ↔ d.key.2.length ≥ 1; omega)
    have l2 : decide ((d.key.1.len : Int) ≤ 1032) = decide (d.pure.key.length ≤ 1032) := decide_eq_decide.2 (by rw [hl.key]; show (d.key.2.length : Int) ≤ 1032 ↔ d.key.2.length ≤ 1032; omega)
    refine joinAnd (x := d.pure.val.length == 0) (fun w7 e7 => ?_) fun J hJ _ => ldS v6 10 rfl (by rw [zv]; exact hJ _ (Fr.refl _ _))
    refine joinAnd (x := S.named d.name) (fun w8 e8 => ?_) fun J hJ _ => ldN (v6.ext e7) (rnamed12_s (by omega) (hJ _ (Fr.refl _ _)))
    have e78 := e7.trans e8
    refine joinAnd (x := decide (d.loc ≥ 1)) (fun w9 e9 => ?_) fun J hJ _ => ldI (v6.ext e78) 5 rfl (hJ _ (Fr.refl _ _))
    have e79 := e78.trans e9
    refine joinAnd (x := decide (d.loc ≤ 31)) (fun w10 e10 => ?_) fun J hJ _ => ldI (v6.ext e79) 5 rfl (hJ _ (Fr.refl _ _))
    have e710 := e79.trans e10
    refine joinAnd (x := decide (d.pure.key.length ≥ 1)) (fun w11 e11 => ?_) fun J hJ _ => ldS (v6.ext e710) 9 rfl (by rw [l1]; exact hJ _ (Fr.refl _ _))
    have e711 := e710.trans e11
    refine joinAnd (x := decide (d.pure.key.length ≤ 1032)) (fun w12 e12 => ?_) fun J hJ _ => ldS (v6.ext e711) 9 rfl (by rw [l2]; exact hJ _ (Fr.refl _ _))
    have := hR (hK w12 (E6.trans (e711.trans e12)))
    rw [if_neg k0, if_neg k1, if_neg k2, if_neg k3, if_pos k4] at this; exact this
  have k4 : ¬ d.kind = 4 := by simpa using h4
  have := hR (hK w6 E6)
  rw [if_neg k0, if_neg k1, if_neg k2, if_neg k3, if_neg k4] at this; exact this
/-! ### lists of descriptors -/
structure DsIn (w : World) (s : Sl) (ds : List DM) : Prop where
  rds : Rds w s 11 (ds.map DM.cells)
  ok : ∀ d ∈ ds, d.Ok w
theorem DsIn.ext {w w' : World} {s : Sl} {ds : List DM} (h : DsIn w s ds) (e : Ext w w') : DsIn w' s ds := ⟨h.rds.ext e, fun d hd => (h.ok d hd).ext e⟩
theorem DsIn.len {w : World} {s : Sl} {ds : List DM} (h : DsIn w s ds) : s.len = ds.length := by have := h.rds.len; simp at this; omega
theorem flat_take {ds : List DM} (i : Nat) : (ds.map DM.cells).flatten.take (i * 11) = ((ds.take i).map DM.cells).flatten := by
  induction ds generalizing i with
  | nil => simp
  | cons d ds ih =>
    cases i with
    | zero => simp
    | succ i =>
      rw [List.map_cons, List.flatten_cons, List.take_succ_cons, List.map_cons, List.flatten_cons, show (i + 1) * 11 = d.cells.length + i * 11 by rw [show d.cells.length = 11 from rfl]; omega, List.take_length_add_append, ih]
theorem flat_len (ds : List DM) : (ds.map DM.cells).flatten.length = ds.length * 11 := by
  induction ds with
  | nil => rfl
  | cons d ds ih => rw [List.map_cons, List.flatten_cons, List.length_append, ih, show d.cells.length = 11 from rfl, List.length_cons]; omega
theorem DsIn.cut {w : World} {s : Sl} {ds : List DM} (h : DsIn w s ds) {i : Nat} (hi : i ≤ ds.length) : DsIn w (s.cut 11 0 i) (ds.take i) := by
  have hl := h.len
  have hr := Rd.cut h.rds.rd (l := 0) (hi := i) (by omega) (by omega)
  rw [Nat.zero_mul, List.drop_zero, Nat.sub_zero, flat_take] at hr
  refine ⟨⟨hr, ?_, fun c hc => by obtain ⟨p, _, rfl⟩ := List.mem_map.1 hc; rfl⟩, fun p hp => h.ok p (List.mem_of_mem_take hp)⟩
  have := hr.len
  rw [flat_len] at this
  rw [List.length_map]
  omega
/-- 'd := l[i]', a variable of its own (of the program's type). -/
theorem des_at {w : World} {s : Sl} {ds : List DM} {i : Nat} (h : DsIn w s ds) (hi : i < ds.length) {K : Addr → World → Prop} (hK : ∀ g w', Ext w w' → w.heap.size ≤ g → Var w' g (ds[i]'hi).cells → K (at_ g 0) w') :
    semS Try.prog (Instr.indexAt 22 (.slice s.a s.len s.cap) (.int .i64 (i : Int))) (.one .adr) (fun x4 w =>
          semS Try.prog (Instr.loadAt 27 (.pointer (some x4))) (.agg lD) (fun x5 x6 x7 x8 x9 x10 x11 x12 x13 x14 x15 w =>
          semS Try.prog (Instr.alloc 27 true (.tuple #[])) (.one .adr) (fun x16 w =>
          semU Try.prog (Instr.storeAt 27 (.pointer (some x16)) (.agg #[(.int .i64 x5), (.int .i64 x6), (.int .i64 x7), (.int .i64 x8), (.int .i64 x9), (.int .i64 x10), (.string x11), (.slice x12.a x12.len x12.cap), (.slice x13.a x13.len x13.cap), (.slice x14.a x14.len x14.cap), (.slice x15.a x15.len x15.cap)])) (fun w => K x16 w) w) w) w) w := by
  have hsl := h.len
  obtain ⟨a, ha⟩ := h.rds.some (by omega)
  have hp : (ds.map DM.cells)[i]? = some (ds[i]'hi).cells := by simp [hi]
  refine ix_i ha (by omega) (by omega) ?_
  rw [Int.toNat_natCast]
  refine ldA_i (n := 11) (cs := (ds[i]'hi).cells) rfl (h.rds.elem ha hp) ?_
  generalize ds[i]'hi = d at hK
  show semS Try.prog (Instr.alloc 27 true (.tuple #[])) (.one .adr) _ w
  refine alloc_i fun g w1 e1 hg v1 => ?_
  refine stD_i (d := d) v1 rfl fun w2 f2 v2 => ?_
  exact hK g w2 (Fr.own1 e1 f2 hg) hg v2
/-- An element's value (of either type). -/
theorem des_ld {w : World} {s : Sl} {ds : List DM} {i t e : Nat} {z : Value} [SliceTy Try.prog t e 11 z] [AggTy Try.prog e 11] (h : DsIn w s ds) (hi : i < ds.length) {K : Int → Int → Int → Int → Int → Int → ByteArray → Sl → Sl → Sl → Sl → World → Prop}
    (hK : K (ds[i]'hi).kind (ds[i]'hi).alg (ds[i]'hi).size (ds[i]'hi).blk (ds[i]'hi).off (ds[i]'hi).loc (str (ds[i]'hi).name) (ds[i]'hi).salt.1 (ds[i]'hi).dig.1 (ds[i]'hi).key.1 (ds[i]'hi).val.1 w) :
    semS Try.prog (Instr.indexAt t (.slice s.a s.len s.cap) (.int .i64 (i : Int))) (.one .adr) (fun x4 w => semS Try.prog (Instr.loadAt e (.pointer (some x4))) (.agg lD) K w) w := by
  have hsl := h.len
  obtain ⟨a, ha⟩ := h.rds.some (by omega)
  have hp : (ds.map DM.cells)[i]? = some (ds[i]'hi).cells := by simp [hi]
  refine ix_i ha (by omega) (by omega) ?_
  rw [Int.toNat_natCast]
  exact ldA_i (n := 11) (cs := (ds[i]'hi).cells) rfl (h.rds.elem ha hp) hK
theorem like_s {d o : DM} {K : Bool → World → Prop} {w : World} (hK : ∀ w', Ext w w' → K (d.pure.like o.pure) w') :
    callS Try.prog 32 #[.agg d.cells.toArray, .agg o.cells.toArray] [.one .bool] K w := by
  refine f32_ok ?_
  unfold f32
  refine box_i fun g w1 e1 hg v1 => ?_
  have v1 : Var w1 g d.cells := v1
  refine box_i fun g2 w2 e2 hg2 v2 => ?_
  have v2 : Var w2 g2 o.cells := v2
  refine ldI (v1.ext e2) 0 rfl (ldI v2 0 rfl ?_)
  refine joinAnd (x := d.kind != 3) (fun w3 e3 => ?_) fun J hJ _ => ldI (v1.ext e2) 0 rfl (hJ _ (Fr.refl _ _))
  have e23 := e2.trans e3
  exact joinAnd (x := d.name == o.name) (fun w4 e4 => hK w4 (e1.trans (e23.trans e4))) fun J hJ _ => ldN (v1.ext e23) (ldN (v2.ext e3) (by rw [str_toList, str_toList]; exact hJ _ (Fr.refl _ _)))
/-- slices.ContainsFunc over descriptors. -/
theorem contains_s {s : Sl} {ds : List DM} {f : Value} {q : DM → Bool} {K : Bool → World → Prop} {w : World} (h : DsIn w s ds) (hn : ds.length ≤ 100000)
    (hf : ∀ d ∈ ds, ∀ (R : Bool → World → Prop) (w1 : World), Ext w w1 → (∀ w', Ext w1 w' → R (q d) w') → callY Try.prog (callSem f #[.agg d.cells.toArray]) [.one .bool] R w1)
    (hK : ∀ w', Ext w w' → K (ds.any q) w') : callS Try.prog 30 #[.slice s.a s.len s.cap, f] [.one .bool] K w := by
  refine f30_ok ?_
  unfold f30
  refine f45_ok ?_
  unfold f45
  have hsl := h.len
  refine loop_i (fun (x : Int) w' => Ext w w' ∧ ∃ i : Nat, i ≤ ds.length ∧ x = i ∧ (ds.take i).any q = false) (fun x _ => ds.length - x.toNat) ⟨Fr.refl _ _, 0, by omega, rfl, rfl⟩ ?_
  rintro x w1 again ⟨e1, i, hi, rfl, hno⟩ hag
  refine cond_i (fun hlt => ?_) (fun hge => ?_)
  · have hi' : i < ds.length := by have : (i : Int) < (s.len : Int) := of_decide_eq_true hlt
                                   omega
    refine des_ld (h.ext e1) hi' ?_
    have ht : ds.take (i + 1) = ds.take i ++ [ds[i]'hi'] := List.take_succ_eq_append_getElem hi'
    have hmem := List.getElem_mem hi'
    generalize ds[i]'hi' = d at ht hmem
    refine hf d hmem _ w1 e1 fun w2 e2 => ?_
    refine cond_i (fun hq => ?_) (fun hq => ?_)
    · have : ds.any q = true := List.any_eq_true.2 ⟨d, hmem, hq⟩
      have h2 := hK w2 (e1.trans e2)
      rw [this] at h2
      show K (decide ((i : Int) ≥ 0)) w2
      rw [decide_eq_true (show (i : Int) ≥ 0 by omega)]; exact h2
    · refine hag _ w2 ⟨e1.trans e2, i + 1, by omega, ?_, ?_⟩ ?_
      · simp only [wrap_i64 (x := (i : Int) + 1) (by omega) (by omega)]; omega
      · rw [ht, List.any_append, hno]; simp [hq]
      · simp only [wrap_i64 (x := (i : Int) + 1) (by omega) (by omega)]; omega
  · have hi' : i = ds.length := by have : ¬ (i : Int) < (s.len : Int) := of_decide_eq_false hge
                                   omega
    subst hi'
    rw [List.take_length] at hno
    have h2 := hK w1 e1
    rw [hno] at h2
    exact h2
theorem twice_s {s : Sl} {ds : List DM} {d : DM} {K : Bool → World → Prop} {w : World} (h : DsIn w s ds) (hn : ds.length ≤ 100000) (hK : ∀ w', Ext w w' → K (ds.any fun o => d.pure.like o.pure) w') :
    callS Try.prog 36 #[.slice s.a s.len s.cap, .agg d.cells.toArray] [.one .bool] K w := by
  refine f36_ok ?_
  unfold f36
  refine box_i fun g w1 e1 hg v1 => ?_
  have v1 : Var w1 g d.cells := v1
  have hsl := h.len
  refine loop_i (fun (x : Int) w' => Ext w1 w' ∧ ∃ i : Nat, i ≤ ds.length ∧ x = i ∧ ((ds.take i).any fun o => d.pure.like o.pure) = false) (fun x _ => ds.length - x.toNat) ⟨Fr.refl _ _, 0, by omega, rfl, rfl⟩ ?_
  rintro x w2 again ⟨e2, i, hi, rfl, hno⟩ hag
  refine cond_i (fun hlt => ?_) (fun hge => ?_)
  · have hi' : i < ds.length := by have : (i : Int) < (s.len : Int) := of_decide_eq_true hlt
                                   omega
    have h2 := h.ext (e1.trans e2)
    have ht : ds.take (i + 1) = ds.take i ++ [ds[i]'hi'] := List.take_succ_eq_append_getElem hi'
    have hmem := List.getElem_mem hi'
    have hp : (ds.map DM.cells)[i]? = some (ds[i]'hi').cells := by simp [hi']
    generalize ds[i]'hi' = o at ht hmem hp
    obtain ⟨a, ha⟩ := h2.rds.some (by omega)
    have hcell := h2.rds.elem ha hp
    have hd := Ext.drew w2
    have next : o.kind ≠ d.kind ∨ d.kind = 3 ∨ o.name ≠ d.name → again (IntKind.wrap .i64 ((i : Int) + 1)) w2.drew := fun hne => by
      have hl : d.pure.like o.pure = false := by
        unfold S.Des.like
        show (d.kind == o.kind && d.kind != 3 && d.name == o.name) = false
        rw [Bool.eq_false_iff]
        intro hq
        simp only [Bool.and_eq_true, beq_iff_eq, bne_iff_ne] at hq
        obtain ⟨⟨q1, q2⟩, q3⟩ := hq
        rcases hne with h | h | h
        · exact h q1.symm
        · exact q2 h
        · exact h q3.symm
      refine hag _ _ ⟨e2.trans hd, i + 1, by omega, ?_, ?_⟩ ?_
      · simp only [wrap_i64 (x := (i : Int) + 1) (by omega) (by omega)]; omega
      · rw [ht, List.any_append, hno]; simp [hl]
      · simp only [wrap_i64 (x := (i : Int) + 1) (by omega) (by omega)]; omega
    have hw : ∀ j v, o.cells[j]? = some v → ∀ y, Ext w2 y → y.cell? ((a.add (i * 11)).add j) = some v := fun j v hv y hy => hy.cell (hcell j v hv) id
    refine ⟨fun y => Ext w2 y, hd, ?_⟩
    refine ld1Q_i (l := .int .i64) (o := 0) d.kind (fun y hy => (v1.ext e2).ext hy) rfl ?_
    refine cond_i (fun hk3 => ?_) (fun hk3 => next (.inr (.inl (by simpa using hk3))))
    refine ixQ_i ha (by omega) (by omega) ?_
    rw [Int.toNat_natCast]
    refine ldQ_i (l := .int .i64) o.kind (fun y hy => hw 0 _ rfl y hy) ?_
    refine ld1Q_i (l := .int .i64) (o := 0) d.kind (fun y hy => (v1.ext e2).ext hy) rfl ?_
    refine cond_i (fun hke => ?_) (fun hke => next (.inl (by simpa using hke)))
    refine ixQ_i ha (by omega) (by omega) ?_
    rw [Int.toNat_natCast]
    refine ldQ_i (l := .str) (str o.name) (fun y hy => hw 6 _ rfl y hy) ?_
    refine ld1Q_i (l := .str) (o := 6) (str d.name) (fun y hy => (v1.ext e2).ext hy) rfl ?_
    rw [str_toList, str_toList]
    refine cond_i (fun hne => ?_) (fun hne => next (.inr (.inr (by simpa using hne))))
    have hl : d.pure.like o.pure = true := by
      unfold S.Des.like
      show (d.kind == o.kind && d.kind != 3 && d.name == o.name) = true
      simp only [Bool.and_eq_true, beq_iff_eq, bne_iff_ne]
      exact ⟨⟨(by simpa using hke : o.kind = d.kind).symm, by simpa using hk3⟩, (by simpa using hne : o.name = d.name).symm⟩
    have := hK w2.drew (e1.trans (e2.trans hd))
    rw [show (ds.any fun o => d.pure.like o.pure) = true from List.any_eq_true.2 ⟨o, hmem, hl⟩] at this
    exact this
  · have hi' : i = ds.length := by have : ¬ (i : Int) < (s.len : Int) := of_decide_eq_false hge
                                   omega
    subst hi'
    rw [List.take_length] at hno
    have h2 := hK w2 (e1.trans e2)
    rw [hno] at h2
    exact h2
end Go.Proofs.Ytgjbajjggmpmmaa
