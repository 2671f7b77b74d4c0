/- Layer 12 (descr): Right, the program's and the document's. -/
import Derived.Test.YtgjbajjggmpmmaaDes12a
set_option linter.unusedSimpArgs false
set_option linter.unusedVariables false
namespace Go.Proofs.Ytgjbajjggmpmmaa
open Go Go.Eng
structure DM.Ln (d : DM) : Prop where
  salt : d.salt.1.len = d.salt.2.length
  dig : d.dig.1.len = d.dig.2.length
  key : d.key.1.len = d.key.2.length
  val : d.val.1.len = d.val.2.length
theorem DM.Ok.ln {w : World} {d : DM} (h : d.Ok w) : d.Ln := ⟨Bts.len h.salt, Bts.len h.dig, Bts.len h.key, Bts.len h.val⟩
theorem DM.bare_ln {d : DM} (h : d.Ln) : d.bare.Ln := by
  unfold DM.bare
  split
  · exact ⟨h.salt, h.dig, h.key, rfl⟩
  split
  · exact ⟨rfl, rfl, h.key, h.val⟩
  split
  · exact ⟨rfl, rfl, h.key, h.val⟩
  split
  · exact ⟨h.salt, h.dig, h.key, rfl⟩
  split
  · exact ⟨h.salt, h.dig, rfl, h.val⟩
  · exact h
theorem DM.bare_sm {d : DM} (h : d.Sm) : d.bare.Sm := by
  have z : ([] : List UInt8).length ≤ 100000 := by simp
  unfold DM.bare
  split
  · exact ⟨z, h.salt, h.dig, h.key, z⟩
  split
  · exact ⟨z, z, z, h.key, h.val⟩
  split
  · exact ⟨z, z, z, h.key, h.val⟩
  split
  · exact ⟨h.name, h.salt, h.dig, h.key, z⟩
  split
  · exact ⟨z, h.salt, h.dig, z, h.val⟩
  · exact h
def DM.pre (d : DM) : Bool := ((((decide (d.kind < 0) || decide (d.kind > 4)) || !d.bare.nothing) || ((d.kind != 3) && !S.named d.name)) || decide (d.val.2.length > 256))
def DM.pR (d : DM) : Bool :=
  if d.pre = true then false
  else if d.kind = 1 then ((d.pure.summed && d.pure.shp.right) && decide (d.off ≥ d.size)) && decide (d.off ≤ 1099511627776)
  else if d.kind = 2 then (d.pure.summed && decide (d.size ≥ 0)) && decide (d.size ≤ 1099511627776)
  else if d.kind = 4 then ((decide (d.loc ≥ 1) && decide (d.loc < 32)) && decide (d.key.2.length ≥ 1)) && decide (d.key.2.length ≤ 1032)
  else true
theorem beq0 (n : Nat) : ((n : Int) == 0) = (n == 0) := by
  rw [Bool.eq_iff_iff, beq_iff_eq, beq_iff_eq]
  omega
theorem nil_len {l : List UInt8} : (l == []) = (l.length == 0) := by cases l <;> rfl
theorem DM.pR_eq (d : DM) : d.pR = d.pure.right := by
  obtain ⟨kind, alg, size, blk, off, loc, name, ⟨s1, salt⟩, ⟨g1, dig⟩, ⟨k1, key⟩, ⟨v1, val⟩⟩ := d
  unfold DM.pR DM.pre S.Des.right
  simp only [DM.pure]
  by_cases k0 : kind = 0
  · subst k0
    simp [DM.bare, DM.nothing, S.Des.sums, S.Des.shape, S.Des.chain]
    grind
  by_cases k1 : kind = 1
  · subst k1
    simp [DM.bare, DM.nothing, S.Des.sums, S.Des.shape, S.Des.chain]
    grind
  by_cases k2 : kind = 2
  · subst k2
    simp [DM.bare, DM.nothing, S.Des.sums, S.Des.shape, S.Des.chain]
    grind
  by_cases k3 : kind = 3
  · subst k3
    simp [DM.bare, DM.nothing, S.Des.sums, S.Des.shape, S.Des.chain]
    grind
  by_cases k4 : kind = 4
  · subst k4
    simp [DM.bare, DM.nothing, S.Des.sums, S.Des.shape, S.Des.chain]
    grind
  have hpre : decide (kind < 0) || decide (kind > 4) := by simp; omega
  rw [hpre]
  simp [k0, k1, k2, k3, k4]
theorem shp_pure (d : DM) : d.pure.shp = ⟨d.size, d.blk, S.dsz d.alg⟩ := rfl
theorem stSh_i {P : Program} {t g : Nat} {w : World} [AggTy P t 3] {x : S.Shp} {cs : List Value} {K : World → Prop} (hv : Var w g cs) (hl : cs.length = 3) (hK : ∀ w', Fr (fun k => k = g) w w' → Var w' g (shC x) → K w') :
    semU P (Instr.storeAt t (.pointer (some (at_ g 0))) (.agg #[.int .i64 x.s, .int .i64 x.b, .int .i64 x.d])) K w :=
  stV_i (n := 3) (vs := shC x) 0 hv rfl (by omega) (fun v hv => by simp only [shC, List.mem_cons, List.not_mem_nil, or_false] at hv; rcases hv with rfl | rfl | rfl <;> rfl) fun w' h1 h2 => hK w' h1 (by simpa [List.drop_of_length_le (Nat.le_of_eq hl)] using h2)
theorem right_t1 {d : DM} {K : Bool → World → Prop} {w : World} {g g2 : Nat} (hl : d.Ln) (v : Var w g d.cells) (v2 : Var w g2 (shC d.pure.shp)) (hK : ∀ w', Ext w w' → K (((d.pure.summed && d.pure.shp.right) && decide (d.off ≥ d.size)) && decide (d.off ≤ 1099511627776)) w') :
    f10_t1 (at_ g 0) K (at_ g2 0) w := by
  unfold f10_t1
  refine ldD_i v ?_
  refine digest_s ⟨hl.salt, hl.dig⟩ fun w1 e1 => ?_
  refine joinAnd (x := d.pure.shp.right) (fun w2 e2 => ?_) fun J hJ _ => ldSh_i (v2.ext e1) (sRight_s hJ)
  have e12 := e1.trans e2
  refine joinAnd (x := decide (d.off ≥ d.size)) (fun w3 e3 => ?_) fun J hJ _ => ldI (v.ext e12) 4 rfl (ldI (v.ext e12) 2 rfl (hJ _ (Fr.refl _ _)))
  have e13 := e12.trans e3
  exact joinAnd (x := decide (d.off ≤ 1099511627776)) (fun w4 e4 => hK w4 (e13.trans e4)) fun J hJ _ => ldI (v.ext e13) 4 rfl (hJ _ (Fr.refl _ _))
theorem dRight_s {d : DM} {K : Bool → World → Prop} {w : World} (hl : d.Ln) (hs : d.Sm) (hK : ∀ w', Ext w w' → K d.pure.right w') :
    callS Try.prog 10 #[.agg d.cells.toArray] [.one .bool] K w := by
  rw [← DM.pR_eq] at hK
  refine f10_ok ?_
  unfold f10
  refine box_i fun g w1 e1 hg v1 => ?_
  have v1 : Var w1 g d.cells := v1
  have hnm := hs.name
  refine ldI v1 0 rfl ?_
  refine joinOr (x := decide (d.kind > 4)) (fun w2 e2 => ?_) fun J hJ _ => ldI v1 0 rfl (hJ _ (Fr.refl _ _))
  refine joinOr (x := !d.bare.nothing) (fun w3 e3 => ?_) fun J hJ _ => ldD_i (v1.ext e2) (bare_s fun w' e => nothing_s (d := d.bare) ⟨(DM.bare_ln hl).salt, (DM.bare_ln hl).dig, (DM.bare_ln hl).key, (DM.bare_ln hl).val⟩ (DM.bare_sm hs) fun w'' e' => hJ _ (e.trans e'))
  have e13 := e2.trans e3
  refine joinOr (x := ((d.kind != 3) && !S.named d.name)) (fun w4 e4 => ?_) fun J hJ _ => ldI (v1.ext e13) 0 rfl (joinAnd (x := !S.named d.name) (fun w' e => hJ _ e) fun J2 hJ2 _ => ldN (v1.ext e13) (snamed_s (by rw [str_size]; omega) fun w' e => by rw [str_toList]; exact hJ2 _ e))
  have e14 := e13.trans e4
  refine joinOr (x := decide (d.val.2.length > 256)) (fun w5 e5 => ?_) fun J hJ _ => ldS (v1.ext e14) 10 rfl (by
    rw [show decide ((d.val.1.len : Int) > 256) = decide (d.val.2.length > 256) from decide_eq_decide.2 (by rw [hl.val]; omega)]
    exact hJ _ (Fr.refl _ _))
  have e15 := e14.trans e5
  have v5 := v1.ext e15
  have E5 := e1.trans e15
  refine cond_i (fun hp => ?_) (fun hp => ?_)
  · have := hK w5 E5
    unfold DM.pR at this
    rw [if_pos (show d.pre = true from hp)] at this
    exact this
  have hpr : ∀ {K' : Bool → World → Prop} {w' : World}, K' d.pR w' → K' (if d.kind = 1 then ((d.pure.summed && d.pure.shp.right) && decide (d.off ≥ d.size)) && decide (d.off ≤ 1099511627776)
      else if d.kind = 2 then (d.pure.summed && decide (d.size ≥ 0)) && decide (d.size ≤ 1099511627776)
      else if d.kind = 4 then ((decide (d.loc ≥ 1) && decide (d.loc < 32)) && decide (d.key.2.length ≥ 1)) && decide (d.key.2.length ≤ 1032)
      else true) w' := fun {K' w'} h => by
    unfold DM.pR at h
    rw [if_neg (by rw [show d.pre = false from hp]; simp)] at h
    exact h
  refine ldI v5 0 rfl ?_
  refine cond_i (fun h1 => ?_) (fun h1 => ?_)
  · have k1 : d.kind = 1 := by simpa using h1
    have hK' : ∀ w', Ext w5 w' → K (((d.pure.summed && d.pure.shp.right) && decide (d.off ≥ d.size)) && decide (d.off ≤ 1099511627776)) w' := fun w' e => by
      have := hpr (hK w' (E5.trans e))
      rw [if_pos k1] at this; exact this
    have hd := Ext.drew w5
    refine ⟨fun y => Ext w5 y, hd, ?_⟩
    refine ld1Q_i (l := .int .i64) (o := 2) d.size (fun y hy => v5.ext hy) rfl ?_
    refine ld1Q_i (l := .int .i64) (o := 3) d.blk (fun y hy => v5.ext hy) rfl ?_
    refine ld1Q_i (l := .int .i64) (o := 1) d.alg (fun y hy => v5.ext hy) rfl ?_
    refine ⟨?_, ?_⟩
    · refine dsz_s ?_
      refine more_i hd ?_
      refine alloc_i fun g2 w6 e6 hg2 v6 => ?_
      refine more_i (hd.trans e6) ?_
      refine stSh_i (x := d.pure.shp) v6 rfl fun w7 f7 v7 => ?_
      have E7 : Ext w5 w7 := Fr.own1 (hd.trans e6) f7 (by have := hd.size; omega)
      exact right_t1 hl (v5.ext E7) v7 fun w' e => hK' w' (E7.trans e)
    · refine alloc_i fun g2 w6 e6 hg2 v6 => ?_
      refine more_i (hd.trans e6) ?_
      refine dsz_s ?_
      refine more_i (hd.trans e6) ?_
      refine stSh_i (x := d.pure.shp) v6 rfl fun w7 f7 v7 => ?_
      have E7 : Ext w5 w7 := Fr.own1 (hd.trans e6) f7 (by have := hd.size; omega)
      exact right_t1 hl (v5.ext E7) v7 fun w' e => hK' w' (E7.trans e)
  have k1 : ¬ d.kind = 1 := by simpa using h1
  refine cond_i (fun h2 => ?_) (fun h2 => ?_)
  · have k2 : d.kind = 2 := by simpa using h2
    refine ldD_i v5 ?_
    refine digest_s ⟨hl.salt, hl.dig⟩ fun w6 e6 => ?_
    refine joinAnd (x := decide (d.size ≥ 0)) (fun w7 e7 => ?_) fun J hJ _ => ldI (v5.ext e6) 2 rfl (hJ _ (Fr.refl _ _))
    have e67 := e6.trans e7
    refine joinAnd (x := decide (d.size ≤ 1099511627776)) (fun w8 e8 => ?_) fun J hJ _ => ldI (v5.ext e67) 2 rfl (hJ _ (Fr.refl _ _))
    have := hpr (hK w8 (E5.trans (e67.trans e8)))
    rw [if_neg k1, if_pos k2] at this; exact this
  have k2 : ¬ d.kind = 2 := by simpa using h2
  refine cond_i (fun h4 => ?_) (fun h4 => ?_)
  · have k4 : d.kind = 4 := by simpa using h4
    refine ldI v5 5 rfl ?_
    refine joinAnd (x := decide (d.loc < 32)) (fun w7 e7 => ?_) fun J hJ _ => ldI v5 5 rfl (hJ _ (Fr.refl _ _))
    refine joinAnd (x := decide (d.key.2.length ≥ 1)) (fun w8 e8 => ?_) fun J hJ _ => ldS (v5.ext e7) 9 rfl (by
      rw [show decide ((d.key.1.len : Int) ≥ 1) = decide (d.key.2.length ≥ 1) from decide_eq_decide.2 (by rw [hl.key]; omega)]
      exact hJ _ (Fr.refl _ _))
    have e78 := e7.trans e8
    refine joinAnd (x := decide (d.key.2.length ≤ 1032)) (fun w9 e9 => ?_) fun J hJ _ => ldS (v5.ext e78) 9 rfl (by
      rw [show decide ((d.key.1.len : Int) ≤ 1032) = decide (d.key.2.length ≤ 1032) from decide_eq_decide.2 (by rw [hl.key]; omega)]
      exact hJ _ (Fr.refl _ _))
    have := hpr (hK w9 (E5.trans (e78.trans e9)))
    rw [if_neg k1, if_neg k2, if_pos k4] at this; exact this
  have k4 : ¬ d.kind = 4 := by simpa using h4
  have := hpr (hK w5 E5)
  rw [if_neg k1, if_neg k2, if_neg k4] at this; exact this
end Go.Proofs.Ytgjbajjggmpmmaa
