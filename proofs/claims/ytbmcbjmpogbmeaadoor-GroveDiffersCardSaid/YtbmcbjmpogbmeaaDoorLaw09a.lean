/- Layer 9 (grove): what the laws share: seeds, their shapes, the anchor. -/
import Derived.Test.YtbmcbjmpogbmeaaDoorGrv09c
import Derived.Test.YtbmcbjmpogbmeaaDoorTab09
import Derived.Test.YtbmcbjmpogbmeaaDoorRowLib3
import Derived.Test.YtbmcbjmpogbmeaaDoorLib7
set_option linter.unusedSimpArgs false
set_option linter.unusedVariables false
namespace Go.Proofs.YtbmcbjmpogbmeaaDoor
open Go Go.Eng
/-- 'copy(dst, ".."): a whole row's head. -/
theorem copyStr_i {P : Program} {t u ty e : TypeId} {z : Value} [h : SliceTy P t e 1 z] {w : World} {bb n c : Nat} {cells : List Value} {bs : List UInt8} {K : Int → World → Prop} (hv : Var w bb cells) (hn : n ≤ cells.length) (hb : bs.length ≤ n)
    (hK : ∀ w', Fr (fun k => k = bb) w w' → Var w' bb (bs.map vB ++ cells.drop bs.length) → K (bs.length : Int) w') :
    semS P (Builtin.copy_ #[t, u] ty #[.slice (some (at_ bb 0)) n c, .string (str bs)]) (.one (.int .i64)) K w := by
  obtain ⟨i, hi1, hi2, hi3, hi4, hi5, hi6⟩ := h.info
  have hsz : (str bs).size = bs.length := str_size bs
  have hmin : Nat.min bs.length n = bs.length := Nat.min_eq_left hb
  have hfc : (Builtin.firstCells 1 bs.length (.string (str bs))).run P w = .ok (bs.map vB).toArray w := by
    have : ((str bs).extract 0 bs.length).data.map (fun b => Value.int .u8 b.toNat) = (bs.map vB).toArray := by
      apply Array.ext'
      simp [str, vB, List.take_of_length_le]
    simp only [Builtin.firstCells]
    rw [this]; rfl
  obtain ⟨te, fz, hg, hfz⟩ := hv
  have hst := run_storeRow (P := P) bb 0 te fz (bs.map vB) 0 cells.toArray w hg (by simpa using hfz) (by simp; omega) bytes_one
  simp only [Nat.zero_add, List.take_zero, List.nil_append, List.length_map] at hst
  refine ⟨.int .i64 (bs.length : Int), w.setRow bb (bs.map vB ++ cells.drop bs.length).toArray, ?_, one_dec (l := .int .i64) (hK _ (fr_setRow _ _ _) ⟨te, fz, ?_, ?_⟩)⟩
  · simp [Builtin.copy_, run_underlying h.und, Builtin.lenOf, sizeOf, typeInfo, hi1, hi2, hsz, hmin, hfc, hst, goInt]
  · rw [setRow_heap w bb cells.toArray _ te fz hg]
  · intro j hj; exact hfz j (by simp at hj; omega)
theorem rd_whole {w : World} {g n c : Nat} {cs : List Value} (h : Var w g cs) (hn : n = cs.length) (hc : n ≤ c) : Rd w ⟨some (at_ g 0), n, c⟩ 1 cs :=
  ⟨by simp [hn], hc, (fun h => by cases h), fun a ha i v hv => by cases ha; rw [at_add]; exact h.cell (by simpa using hv)⟩
/-- What a tree is made over. -/
structure SM where
  alg : Int
  blk : Int
  salt : Sl × List UInt8
  data : Sl × List UInt8
def SM.cells (y : SM) : List Value := [.int .i64 y.alg, .int .i64 y.blk, slV y.salt.1, slV y.data.1]
structure SM.Ok (w : World) (y : SM) : Prop where
  alg : -9223372036854775808 ≤ y.alg ∧ y.alg ≤ 9223372036854775807
  blk : -9223372036854775808 ≤ y.blk ∧ y.blk ≤ 9223372036854775807
  salt : Bts w y.salt.1 y.salt.2
  data : Bts w y.data.1 y.data.2
theorem SM.Ok.ext {w w' : World} {y : SM} (h : y.Ok w) (e : Ext w w') : y.Ok w' := ⟨h.alg, h.blk, h.salt.ext e, h.data.ext e⟩
theorem open_Seed {W : World} {c : List Value} (hc : KindsR W [.int .i64, .int .i64, .bts, .bts] c) : ∃ y : SM, c = y.cells ∧ y.Ok W := by
  obtain ⟨v1, c, rfl, h1, hc⟩ := kinds_cons hc
  obtain ⟨v2, c, rfl, h2, hc⟩ := kinds_cons hc
  obtain ⟨v3, c, rfl, h3, hc⟩ := kinds_cons hc
  obtain ⟨v4, c, rfl, h4, hc⟩ := kinds_cons hc
  obtain rfl := kinds_nil hc
  obtain ⟨n1, rfl, b1⟩ := ok_int h1
  obtain ⟨n2, rfl, b2⟩ := ok_int h2
  obtain ⟨x3, rfl, b3⟩ := ok_bts h3
  obtain ⟨x4, rfl, b4⟩ := ok_bts h4
  exact ⟨⟨n1, n2, x3, x4⟩, rfl, wf_i64 b1, wf_i64 b2, b3, b4⟩
def SM.shp (y : SM) : S.Shp := shp9 y.alg y.blk y.data.2
def SM.H (y : SM) : List UInt8 → List UInt8 := S.dg y.alg y.salt.2
def SM.isSmall (y : SM) : Bool := decide (y.salt.2.length ≤ 100) && decide (y.data.2.length ≤ 1500)
def SM.right (y : SM) : Bool := y.shp.right && decide (y.salt.2.length ≤ 64)
abbrev lM : List Lf := [.int .i64, .int .i64, .slc, .slc]
theorem ldM_i {P : Program} {t g : Nat} {w : World} [AggTy P t 4] {y : SM} {K : Int → Int → Sl → Sl → World → Prop} (hv : Var w g y.cells) (hK : K y.alg y.blk y.salt.1 y.data.1 w) :
    semS P (Instr.loadAt t (.pointer (some (at_ g 0)))) (.agg lM) K w :=
  ldV_i (n := 4) (ls := lM) 0 hv (Nat.le_refl 4) hK
theorem ldMQ_i {P : Program} {t g : Nat} [AggTy P t 4] {y : SM} {C : World → Prop} {K : Int → Int → Sl → Sl → Prop} (hv : ∀ w, C w → Var w g y.cells) (hK : K y.alg y.blk y.salt.1 y.data.1) :
    semQ P C (Instr.loadAt t (.pointer (some (at_ g 0)))) (.agg lM) K :=
  ldVQ_i (n := 4) (ls := lM) 0 hv (Nat.le_refl 4) hK
section
variable {y : SM}
theorem seedSmall_s {K : Bool → World → Prop} {w : World} (h1 : y.salt.1.len = y.salt.2.length) (h2 : y.data.1.len = y.data.2.length) (hK : ∀ w', Ext w w' → K y.isSmall w') :
    callS Tryd.prog 13 #[.agg #[.int .i64 y.alg, .int .i64 y.blk, .slice y.salt.1.a y.salt.1.len y.salt.1.cap, .slice y.data.1.a y.data.1.len y.data.1.cap]] [.one .bool] K w := by
  refine f13_ok ?_
  unfold f13
  refine box_i fun g w1 e1 hg v1 => ?_
  have v1 : Var w1 g y.cells := v1
  refine ld1_i (l := .slc) (o := 2) y.salt.1 v1 rfl ?_
  refine joinAnd (x := decide (y.data.2.length ≤ 1500)) (fun w' e => ?_) fun J hJ _ => ?_
  · have := hK w' (e1.trans e)
    rw [show decide ((y.salt.1.len : Int) ≤ 100) = decide (y.salt.2.length ≤ 100) from decide_eq_decide.2 (by omega)]
    exact this
  · refine ld1_i (l := .slc) (o := 3) y.data.1 v1 rfl ?_
    rw [show decide ((y.data.1.len : Int) ≤ 1500) = decide (y.data.2.length ≤ 1500) from decide_eq_decide.2 (by omega)]
    exact hJ _ (Fr.refl _ _)
theorem seedShape_s {K : Int → Int → Int → Bool → World → Prop} {w : World} (h1 : y.salt.1.len = y.salt.2.length) (h2 : y.data.1.len = y.data.2.length) (hK : ∀ w', Ext w w' → K y.shp.s y.shp.b y.shp.d y.right w') :
    callS Tryd.prog 12 #[.agg #[.int .i64 y.alg, .int .i64 y.blk, .slice y.salt.1.a y.salt.1.len y.salt.1.cap, .slice y.data.1.a y.data.1.len y.data.1.cap]] [.agg [.int .i64, .int .i64, .int .i64], .one .bool] K w := by
  refine f12_ok ?_
  unfold f12
  refine box_i fun g w1 e1 hg v1 => ?_
  have v1 : Var w1 g y.cells := v1
  refine alloc_i fun g2 w2 e2 hg2 v2 => ?_
  have v0 := v1
  have v1 := v1.ext e2
  have E2 := e1.trans e2
  have tail : ∀ g3 w', g2 ≠ g3 → Ext w2 w' → Var w' g3 (shC y.shp) → f12_t2 (at_ g3 0) (at_ g 0) (at_ g2 0) K w' := by
    intro g3 w3 hg3 e3 v3
    unfold f12_t2
    have hd := Ext.drew w3
    have e3d := e3.trans hd
    have hC : ∀ x, Ext w2 x ∧ Var x g3 (shC y.shp) → Var x g3 (shC y.shp) ∧ Var x g y.cells := fun x hx => ⟨hx.2, v1.ext hx.1⟩
    refine ⟨fun x => Ext w1 x ∧ Var x g3 (shC y.shp) ∧ Var x g y.cells, ⟨e2.trans e3d, v3.ext hd, v1.ext e3d⟩, ?_⟩
    refine ldShQ_i (fun x hx => hx.2.1) ?_
    refine ldShQ_i (fun x hx => hx.2.1) ?_
    refine rRight_s fun w4 e4 => ?_
    have e34 := hd.trans e4
    have e24 := e3.trans e34
    refine more_i ⟨e2.trans e24, v3.ext e34, v1.ext e24⟩ ?_
    have done : ∀ (b : Bool), b = y.right → ∀ w5, Ext w1 w5 → Var w5 g2 (shC y.shp) → f12_t1 (at_ g2 0) b K w5 := by
      rintro b rfl w5 e5 v5
      unfold f12_t1
      exact resV_i (n := 3) v5 rfl (hK w5 (e1.trans e5))
    have hn3 : g2 ≠ g3 := hg3
    have hng : g2 ≠ g := by have := v1.lt; have := v0.lt; omega
    have st : ∀ (b : Bool), b = y.right → semU Tryd.prog (Instr.storeAt 27 (.pointer (some (at_ g2 0))) (.agg #[.int .i64 y.shp.s, .int .i64 y.shp.b, .int .i64 y.shp.d])) (fun w => moreS (fun x => Ext w1 x ∧ Var x g3 (shC y.shp) ∧ Var x g y.cells) w fun C => f12_t1 (at_ g2 0) b K w) w4 := by
      intro b hb
      refine stSh_i (x := y.shp) (v2.ext e24) rfl fun w5 f5 v5 => ?_
      have e15 : Ext w1 w5 := Fr.own1 (e2.trans e24) f5 hg2
      exact more_i ⟨e15, (v3.ext e34).fr f5 (fun h => hn3 h.symm), (v1.ext e24).fr f5 (fun h => hng h.symm)⟩ (done b hb w5 e15 v5)
    refine cond_i (fun h => ?_) (fun h => ?_)
    · refine ld1Q_i (l := .slc) (o := 2) y.salt.1 (fun x hx => hx.2.2) rfl ?_
      refine st _ ?_
      unfold SM.right; rw [h, Bool.true_and]
      exact decide_eq_decide.2 (by omega)
    · refine st _ ?_
      unfold SM.right; rw [h]; rfl
  have hs : (⟨(y.data.1.len : Int), y.blk, S.dsz y.alg⟩ : S.Shp) = y.shp := by unfold SM.shp shp9; rw [h2]
  have hd := Ext.drew w2
  refine ⟨fun x => Ext w2 x, hd, ?_⟩
  refine ld1Q_i (l := .slc) (o := 3) y.data.1 (fun x hx => v1.ext hx) rfl ?_
  refine ld1Q_i (l := .int .i64) (o := 1) y.blk (fun x hx => v1.ext hx) rfl ?_
  refine ld1Q_i (l := .int .i64) (o := 0) y.alg (fun x hx => v1.ext hx) rfl ?_
  have st3 : ∀ {g3 : Nat} {w4 : World} {cs}, Ext w2 w4 → w2.heap.size ≤ g3 → Var w4 g3 cs → cs.length = 3 → semU Tryd.prog (Instr.storeAt 27 (.pointer (some (at_ g3 0))) (.agg #[.int .i64 (y.data.1.len : Int), .int .i64 y.blk, .int .i64 (S.dsz y.alg)])) (fun w => f12_t2 (at_ g3 0) (at_ g 0) (at_ g2 0) K w) w4 := by
    intro g3 w4 cs e4 h3 v hl
    have := v2.lt
    refine stSh_i (x := ⟨(y.data.1.len : Int), y.blk, S.dsz y.alg⟩) v hl fun w5 f5 v5 => ?_
    rw [hs] at v5
    exact tail g3 w5 (by omega) (Fr.own1 e4 f5 h3) v5
  refine ⟨?_, ?_⟩
  · refine rdsz_s ?_
    refine more_i hd ?_
    refine alloc_i fun g3 w3 e3 hg3 v3 => ?_
    have := hd.size
    exact more_i (hd.trans e3) (st3 (hd.trans e3) (by omega) v3 rfl)
  · refine alloc_i fun g3 w3 e3 hg3 v3 => ?_
    have := hd.size
    refine more_i (hd.trans e3) ?_
    refine rdsz_s ?_
    exact more_i (hd.trans e3) (st3 (hd.trans e3) (by omega) v3 rfl)
end
theorem abc_h : (shp9 1 64 [97, 98, 99]).h = 0 := by decide +kernel
theorem z65_h : (⟨65, 64, 32⟩ : S.Shp).h = 1 ∧ (⟨65, 64, 32⟩ : S.Shp).c 1 = 1 ∧ (⟨65, 64, 32⟩ : S.Shp).right = true := by decide +kernel
theorem anchor9_s {K : Bool → World → Prop} {w : World} (ht : Tabs9 w) (hK : ∀ w', Ext w w' → K true w') : callS Tryd.prog 11 #[] [.one .bool] K w := by
  refine f11_ok ?_
  unfold f11
  refine bytesConst_i [97, 98, 99] (by kernel_rfl) rfl (by omega) fun x2 w1 e1 o1 => ?_
  have hr : (shp9 1 64 [97, 98, 99]).right = true := by decide +kernel
  have a1 : askErr 1 [] (shp9 1 64 [97, 98, 99]) = 0 := askErr_of (by decide) (by decide) hr rfl
  refine make_s (p1 := Sl.nil) (salt := []) (ht.ext e1) (Rd.nilSl _ _) o1.rd (by decide) (fun h => absurd a1 h) fun _ t r w2 e2 ot or => ?_
  have E2 := e1.trans e2
  have hlt := OwnB.len ot
  rw [S.Shp.tree, abc_h] at hlt
  have hroot : (shp9 1 64 [97, 98, 99]).root (S.dg 1 []) [97, 98, 99] = S.dg 1 [] ([97, 98, 99] ++ List.replicate 61 0) := by rw [S.Shp.root, abc_h]; rfl
  rw [hroot] at or
  refine makeB_i (by omega) (by omega) fun x6 w3 e3 o3 => ?_
  have E3 := E2.trans e3
  obtain ⟨zs, hz⟩ : ∃ zs, zs = List.replicate ((65 : Int).toNat) (0 : UInt8) := ⟨_, rfl⟩
  rw [← hz] at o3
  have hzl : zs.length = 65 := by rw [hz, List.length_replicate]; rfl
  have hx : shp9 1 64 zs = ⟨65, 64, 32⟩ := by unfold shp9; rw [hzl]; rfl
  obtain ⟨q1, q2, q3⟩ := z65_h
  have a2 : askErr 1 [] (shp9 1 64 zs) = 0 := by rw [hx]; exact askErr_of (by decide) (by decide) q3 rfl
  refine make_s (p1 := Sl.nil) (salt := []) (ht.ext E3) (Rd.nilSl _ _) o3.rd (by omega) (fun h => absurd a2 h) fun _ t2 r2 w4 e4 ot2 or2 => ?_
  have hl2 := OwnB.len ot2
  rw [hx, S.Shp.tree, q1, S.Shp.tr, S.Shp.tr, List.append_nil, S.Shp.lev_len (S.Shp.ok_of q3) (fun y => by rw [S.dg_len (by decide)]; rfl), q2] at hl2
  have E4 := E3.trans e4
  refine makeRow_i (by omega) (by omega) fun g w5 e5 hg v5 => ?_
  rw [show (Value.int .u8 0).cells = #[vB 0] from rfl, zeroCells_one] at v5
  refine copyStr_i (bs := [97, 98, 99]) v5 (by rw [List.length_replicate]; exact Nat.le_refl _) (by show 3 ≤ 64; omega) fun w6 f6 v6 => ?_
  have hb : Bts w6 ⟨some (at_ g 0), (64 : Int).toNat, (64 : Int).toNat⟩ ([97, 98, 99] ++ List.replicate 61 0) := by
    refine rd_whole ?_ (by simp) (Nat.le_refl _)
    rw [List.map_append, List.map_replicate]
    rw [List.drop_replicate] at v6; exact v6
  have e46 := Fr.own1 e5 f6 hg
  have E6 := E4.trans e46
  have hd := Ext.drew w6
  refine ⟨fun x => Ext w6 x, hd, ?_⟩
  have or6 := Own.ext or ((e3.trans e4).trans e46)
  refine cond_i (fun _ => ?_) (fun h => by simp at h)
  refine cond_i (fun _ => ?_) (fun h => by rw [hlt] at h; cases h)
  refine b2sQ_i (fun x hx => (Own.ext or6 hx).rd) ?_
  refine rdig_s (p1 := Sl.nil) (salt := []) (Rd.nilSl _ _) (hb.ext hd) (by decide) (by simp) fun r7 w7 e7 o7 => ?_
  have e67 := hd.trans e7
  refine more2_i (fun x => Ext w7 x) (Fr.refl _ _) (fun x hx => e67.trans hx) ?_
  refine b2sQ_i (fun x hx => (Own.ext o7 hx).rd) ?_
  refine cond_i (fun _ => ?_) (fun h => by simp at h)
  refine cond_i (fun _ => ?_) (fun h => by simp at h)
  have := hK w7 (E6.trans e67)
  rw [show ((t2.len : Int) == 64) = true by rw [hl2]; rfl]
  exact this
end Go.Proofs.YtbmcbjmpogbmeaaDoor
