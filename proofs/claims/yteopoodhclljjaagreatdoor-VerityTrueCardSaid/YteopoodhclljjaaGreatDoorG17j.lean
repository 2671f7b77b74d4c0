/- Layer 17 (verity): a partition with data, and a tree over them, as plain data. / Layer 17 (verity): a reader is opened; seeds, and the drive that is made of one. / Layer 17 (verity): readers over a seed's drive; the anchor. -/
import Derived.Test.YteopoodhclljjaaGreatDoorG17i
import Derived.Test.YteopoodhclljjaaGreatDoorG17e
import Derived.Test.YteopoodhclljjaaGreatDoorRowLib3
set_option linter.unusedSimpArgs false
set_option linter.unusedVariables false
/-! Pure17b -/
namespace Go.S
open Go Go.Eng
theorem cut_left {α : Type} {a r : List α} {p k : Nat} (h : p + k ≤ a.length) : ((a ++ r).drop p).take k = (a.drop p).take k := by
  rw [List.drop_append_of_le_length (by omega), List.take_append_of_le_length (by rw [List.length_drop]; omega)]
theorem cut_right {α : Type} {a r : List α} {p k n : Nat} (hn : n = a.length) : ((a ++ r).drop (n + p)).take k = (r.drop p).take k := by
  subst hn
  rw [← List.drop_drop, List.drop_left]
theorem cut_take {α : Type} {a : List α} {n p k : Nat} (h : p + k ≤ n) : ((a.take n).drop p).take k = (a.drop p).take k := by
  rw [List.drop_take, List.take_take, Nat.min_eq_left (by omega)]
def vOff (n : Nat) : Nat := (n + 63) / 64 * 64
def vSize (n t : Nat) : Nat := (vOff n + t + 127) / 64 * 64
theorem vOff_ge (n : Nat) : n ≤ vOff n ∧ vOff n ≤ n + 63 := by unfold vOff; omega
theorem vSize_ge (n t : Nat) : vOff n + t + 64 ≤ vSize n t ∧ vSize n t ≤ vOff n + t + 127 ∧ vSize n t % 64 = 0 := by unfold vSize; omega
/-- The partition's bytes. -/
def vPart (data T : List UInt8) : List UInt8 := over (over (List.replicate (vSize data.length T.length) 0) data 0 fun _ => true) T (vOff data.length) fun _ => true
theorem vPart_len (data T : List UInt8) : (vPart data T).length = vSize data.length T.length := by
  unfold vPart; rw [over_length, over_length, List.length_replicate]
theorem vPart_data {data T : List UInt8} {p k : Nat} (h : p + k ≤ data.length) : ((vPart data T).drop p).take k = (data.drop p).take k := by
  have h1 := vOff_ge data.length
  have h2 := vSize_ge data.length T.length
  unfold vPart
  rw [over_all (by rw [over_length, List.length_replicate]; omega), List.append_assoc]
  rw [cut_left (by rw [List.length_take, over_length, List.length_replicate]; omega), cut_take (by omega)]
  rw [over_all (by rw [List.length_replicate]; omega), List.take_zero, List.nil_append, cut_left h]
theorem vPart_tree {data T : List UInt8} {p k : Nat} (h : p + k ≤ T.length) : ((vPart data T).drop (vOff data.length + p)).take k = (T.drop p).take k := by
  have h1 := vOff_ge data.length
  have h2 := vSize_ge data.length T.length
  unfold vPart
  rw [over_all (by rw [over_length, List.length_replicate]; omega), List.append_assoc]
  rw [cut_right (by rw [List.length_take, over_length, List.length_replicate]; omega), cut_left h]
namespace Shp
variable {x : Shp} {H : List UInt8 → List UInt8} {data : List UInt8}
theorem tr_cut (o : x.Ok) (hH : ∀ y, (H y).length = x.dN) {l i : Nat} (h1 : 1 ≤ l) (hi : i < x.c l) : ∀ d, l + d ≤ x.h → ∃ s, x.sumA l = s + x.sumA (l + d) ∧ ((x.tr H data (l + d)).drop ((i + s) * x.bN)).take x.bN = x.blk H data l i
  | 0, h => by
    refine ⟨0, by simp, ?_⟩
    obtain ⟨m, rfl⟩ : ∃ m, l = m + 1 := ⟨l - 1, by omega⟩
    show ((x.lev H data (m + 1) ++ x.tr H data m).drop _).take _ = _
    have hm := Nat.mul_le_mul_right x.bN (show i + 1 ≤ x.c (m + 1) by omega)
    rw [Nat.succ_mul] at hm
    rw [Nat.add_zero, cut_left (by rw [lev_len o hH]; exact hm)]
    exact lev_cut o hH hi
  | d + 1, h => by
    obtain ⟨s, h2, h3⟩ := tr_cut o hH h1 hi d (by omega)
    refine ⟨x.c (l + d + 1) + s, ?_, ?_⟩
    · have := sumA_step (x := x) (l := l + d) (by omega)
      rw [h2, this, show l + (d + 1) = l + d + 1 by omega]; omega
    · show ((x.lev H data (l + d + 1) ++ x.tr H data (l + d)).drop _).take _ = _
      rw [show (i + (x.c (l + d + 1) + s)) * x.bN = x.c (l + d + 1) * x.bN + (i + s) * x.bN by rw [← Nat.add_mul]; congr 1; omega, cut_right (by rw [lev_len o hH])]
      exact h3
theorem tree_cut (o : x.Ok) (hH : ∀ y, (H y).length = x.dN) {l i : Nat} (h1 : 1 ≤ l) (h2 : l ≤ x.h) (hi : i < x.c l) : ((x.tree H data).drop ((i + x.sumA l) * x.bN)).take x.bN = x.blk H data l i ∧ (i + x.sumA l) * x.bN + x.bN ≤ (x.tree H data).length := by
  obtain ⟨s, h3, h4⟩ := tr_cut (data := data) o hH h1 hi (x.h - l) (by omega)
  rw [show l + (x.h - l) = x.h by omega] at h3 h4
  rw [sumA_top, Nat.add_zero] at h3
  have h5 : ((x.tree H data).drop ((i + x.sumA l) * x.bN)).take x.bN = x.blk H data l i := by rw [h3]; exact h4
  refine ⟨h5, ?_⟩
  have := congrArg List.length h5
  rw [blk_len o hH, List.length_take, List.length_drop] at this
  have hb := o.b1
  omega
end Shp
theorem badIn_no {b : List UInt8} {off len : Int} : (Area.mk [] b fun _ => false).badIn off len = false := badIn_none
theorem pread_ok {b : List UInt8} {bad : Int → Bool} {p k : Nat} (h : p + k ≤ b.length) (hb : (Area.mk [] b bad).badIn (p : Int) (k : Int) = false) : pread b bad (p : Int) (k : Int) = ((b.drop p).take k, 0) := by
  unfold pread
  have hw : within (p : Int) (k : Int) (b.length : Int) = true := within_iff.2 ⟨by omega, by omega, by omega, by omega, by omega⟩
  rw [hw, hb]
  simp only [Int.toNat_natCast]
  rfl
/-- What the drive tells of the tree's blocks, and of the data's. -/
theorem vfetch_fair {x : Shp} (o : x.Ok) {H : List UInt8 → List UInt8} (hH : ∀ y, (H y).length = x.dN) {data : List UInt8} (hd : data.length = x.sN) (p : Pl) (h1 : p.2 ≤ x.h) (h2 : p.1 < x.c p.2) :
    vfetch x (vOff data.length : Nat) (vPart data (x.tree H data)) (fun _ => false) p = (x.blk H data p.2 p.1, 0) := by
  have hs := vSize_ge data.length (x.tree H data).length
  have ho := vOff_ge data.length
  have hb1 := o.b1
  unfold vfetch
  split
  · rename_i hl
    obtain ⟨q1, q2⟩ := Shp.tree_cut (data := data) o hH hl h1 h2
    rw [show ((vOff data.length : Nat) : Int) + (((p.1 + x.sumA p.2) * x.bN : Nat) : Int) = ((vOff data.length + (p.1 + x.sumA p.2) * x.bN : Nat) : Int) by omega, pread_ok (by rw [vPart_len]; omega) badIn_no, vPart_tree (by omega), q1]
  · rename_i hl
    obtain ⟨i, l⟩ := p
    have hl0 : l = 0 := by simpa using hl
    subst hl0
    simp only at h2 ⊢
    have hfrom : i * x.bN < x.sN := (up_iff (by omega) o.s1).1 (show i < up x.sN x.bN from h2)
    have hle : i * x.bN + min x.bN (x.sN - i * x.bN) ≤ data.length := by omega
    rw [pread_ok (by rw [vPart_len]; omega) badIn_no, if_pos rfl, vPart_data hle]
    congr 1
    show fit x.bN _ = fit x.bN _
    congr 1
    rcases Nat.le_total x.bN (x.sN - i * x.bN) with h | h
    · rw [Nat.min_eq_left h]
    · rw [Nat.min_eq_right h, List.take_of_length_le (by rw [List.length_drop]; omega), List.take_of_length_le (by rw [List.length_drop]; omega)]
end Go.S

/-! Ver17d -/
namespace Go.Proofs.YteopoodhclljjaaGreatDoor
open Go Go.Eng
open Go.S (Pl Kn Vq Vr klook vfirst vblk vput)
theorem VrAt.base {w : World} {B B' : Nat} {X : VX} {V : VM} (h : VrAt w B X V) (hB : B' ≤ B) : VrAt w B' X V :=
  ⟨h.var, h.map, h.ord.base hB, h.kn, h.tr, h.trc, h.salt, h.dig, fun k hk => by have := h.sep k hk; exact ⟨this.1, by omega, this.2.2⟩, fun k hk => by have := h.lo k hk; omega, h.ne⟩
def VM.fresh (m : Nat) : VM := ⟨m, Sl.nil, Sl.nil, [], [], false⟩
def openOk (d : DM) (mode : Int) : Bool := d.pure.right && d.kind == 1 && !decide (mode < 0) && !decide (mode > 1)
theorem vOpen_s {gd : Nat} {d : DM} {mode : Int} {nm : ByteArray} {K : Option Addr → Int → World → Prop} {w : World} (hn : nm = str pn) (hd : d.Ok w) (hs : d.Sm)
    (hErr : openOk d mode = false → ∀ w', Ext w w' → K none 12 w')
    (hOk : openOk d mode = true → ∀ gr m d' w', Ext w w' → VrAt w' w.heap.size ⟨gr, gd, d', mode⟩ (VM.fresh m) → d'.pure = d.pure → K (some (at_ gr 0)) 0 w') :
    callS Tryz.prog 8 #[.pointer (some (at_ gd 0)), .string nm, .agg d.cells.toArray, .int .i64 mode] [.one .ptr, .one (.int .i64)] K w := by
  subst hn
  refine f8_ok ?_
  unfold f8
  refine box_i fun g w1 e1 hg v1 => ?_
  have v1 : Var w1 g d.cells := v1
  refine ldD_i v1 ?_
  refine dRight_s (hd.ext e1).ln hs fun w2 e2 => ?_
  have E2 := e1.trans e2
  have v2 := v1.ext e2
  refine join_i (fun c w' => w' = w2 ∧ c = !(d.pure.right && d.kind == 1)) ?_ fun J hJ => ?_
  rotate_left
  · refine cond_i (fun h => ?_) (fun h => ?_)
    · have : d.pure.right = false := by simpa using h
      exact hJ _ _ ⟨rfl, by rw [this]; rfl⟩
    · have : d.pure.right = true := by simpa using h
      refine ldI v2 0 rfl ?_
      exact hJ _ _ ⟨rfl, by rw [this]; rfl⟩
  rintro c w' ⟨rfl, rfl⟩
  refine cond_i (fun h => hErr ?_ w' E2) (fun h => ?_)
  · unfold openOk
    simp only [Bool.or_eq_true, Bool.not_eq_true', Bool.and_eq_false_iff, decide_eq_true_eq] at h ⊢
    rcases h with (h | h) | h
    · exact .inl (.inl h)
    · exact .inl (.inr (by simpa using h))
    · exact .inr (by simpa using h)
  have hok : openOk d mode = true := by
    unfold openOk
    simp only [Bool.or_eq_false_iff] at h
    rw [h.1.2, h.2]
    simpa using h.1.1
  have hd2 := hd.ext E2
  have hdr := Ext.drew w'
  refine ⟨fun y => Ext w' y, hdr, ?_⟩
  refine ld1Q_i (l := .slc) (o := 7) d.salt.1 (fun y hy => v2.ext hy) rfl ?_
  refine ld1Q_i (l := .slc) (o := 8) d.dig.1 (fun y hy => v2.ext hy) rfl ?_
  have hss := hs.salt
  have hds := hs.dig
  refine clone_s (hd2.salt.ext hdr) (by omega) fun r1 w3 e3 o3 => ?_
  have E3 := hdr.trans e3
  refine more_i E3 ?_
  refine clone_s (hd2.dig.ext E3) (by omega) fun r2 w4 e4 o4 => ?_
  have E4 := E3.trans e4
  have v4 := v2.ext E4
  refine st1_i (o := 7) v4 (show 7 < 11 by decide) rfl fun w5 f5 v5 => ?_
  refine st1_i (o := 8) v5 (show 8 < 11 by decide) rfl fun w6 f6 v6 => ?_
  have hg0 : g < w1.heap.size := v1.lt
  have hgg : w.heap.size ≤ g := hg
  have f56 : Fr (fun k => k = g) w4 w6 := f5.trans' f6
  have s1 := e1.size
  have s2 := e2.size
  have sd := hdr.size
  have s3 := e3.size
  have s4 := e4.size
  have hne1 : ∀ k, r1.inB k → k ≠ g := fun k hk => by have := (o3.inB hk).1; omega
  have hne2 : ∀ k, r2.inB k → k ≠ g := fun k hk => by have := (o4.inB hk).1; omega
  have o3' := (o3.ext e4).fr f56 fun a ha => hne1 _ ⟨a, ha, rfl⟩
  have o4' := o4.fr f56 fun a ha => hne2 _ ⟨a, ha, rfl⟩
  obtain ⟨d', hd'⟩ : ∃ d' : DM, d' = { d with salt := (r1, d.salt.2), dig := (r2, d.dig.2) } := ⟨_, rfl⟩
  have v6 : Var w6 g d'.cells := by rw [hd']; exact v6
  have E6 : Ext w w6 := Fr.own1 (E2.trans E4) f56 hgg
  have hdr6 := Ext.drew w6
  refine ⟨fun y => Ext w6 y, hdr6, ?_⟩
  refine ldDQ_i (fun y hy => v6.ext hy) ?_
  refine ld1Q_i (l := .int .i64) (o := 2) d'.size (fun y hy => v6.ext hy) rfl ?_
  refine ld1Q_i (l := .int .i64) (o := 3) d'.blk (fun y hy => v6.ext hy) rfl ?_
  refine ld1Q_i (l := .int .i64) (o := 1) d'.alg (fun y hy => v6.ext hy) rfl ?_
  have fin : ∀ gr m w7 w8, Ext w6 w7 → w6.heap.size ≤ m → (∀ {κ ν : Type} (ek : κ → Value) (ev : ν → Value), MapAt w7 ek ev m (fun _ => none)) → Ext w7 w8 → w7.heap.size ≤ gr → Var w8 gr (vCells ⟨gr, gd, d', mode⟩ (VM.fresh m)) → K (some (at_ gr 0)) 0 w8 := by
    intro gr m w7 w8 e7 hm hmap e8 hgr vgr
    have E8 := e7.trans e8
    have hmlt := (hmap kCx slV).lt
    have s7 := e7.size
    have s8 := e8.size
    have s6 := f56.size
    have hgl := vgr.lt
    refine hOk hok gr m d' w8 (E6.trans E8) ⟨vgr, (hmap kCx slV).ext e8, Own.nilSl _ _ _, (fun e he => by cases he), Rd.nilSl _ _, (fun x hx => by cases hx), ?_, ?_, fun k hk => ?_, fun k hk => ?_, ?_, ?_, ?_⟩ ?_
    · rw [hd']; exact o3'.rd.ext E8
    · rw [hd']; exact o4'.rd.ext E8
    · have hk' : r1.inB k ∨ r2.inB k := by
        rcases hk with ⟨a, ha, _⟩ | ⟨x, hx, _⟩ | ⟨e, he, _⟩ | hk | hk
        · cases ha
        · cases hx
        · cases he
        · rw [hd'] at hk; exact .inl hk
        · rw [hd'] at hk; exact .inr hk
      have hr : w'.heap.size ≤ k ∧ k < w6.heap.size := by
        rcases hk' with hk | hk
        · have := o3'.inB hk; omega
        · have := o4'.inB hk; omega
      refine ⟨fun hm' => ?_, by omega, by omega⟩
      rcases hm' with h | h | ⟨a, ha, _⟩
      · have h : k = gr := h
        omega
      · have h : k = m := h
        omega
      · cases ha
    · rcases hk with h | h | ⟨a, ha, _⟩
      · have h : k = gr := h
        omega
      · have h : k = m := h
        omega
      · cases ha
    · show gr ≠ m; omega
    · rintro ⟨a, ha, _⟩; cases ha
    · rintro ⟨a, ha, _⟩; cases ha
    · rw [hd']; rfl
  have hx : d'.pure.shp = ⟨d'.size, d'.blk, S.dsz d'.alg⟩ := rfl
  refine ⟨?_, ?_⟩
  · refine dsz_s ?_
    refine more_i hdr6 ?_
    refine makeMap_i fun m w7 e7 hm hmap => ?_
    refine more_i (hdr6.trans e7) ?_
    refine box_i fun gr w8 e8 hgr v8 => ?_
    exact fin gr m w7 w8 (hdr6.trans e7) (by have := hdr6.size; omega) hmap e8 hgr v8
  · refine makeMap_i fun m w7 e7 hm hmap => ?_
    refine more_i (hdr6.trans e7) ?_
    refine dsz_s ?_
    refine more_i (hdr6.trans e7) ?_
    refine box_i fun gr w8 e8 hgr v8 => ?_
    exact fin gr m w7 w8 (hdr6.trans e7) (by have := hdr6.size; omega) hmap e8 hgr v8
/-- A pointer and a descriptor that lies in memory, told together. -/
theorem resPD_i {P : Program} {t g : Nat} [AggTy P t 11] {w : World} {p : Option Addr} {d : DM} {K : Option Addr → Int → Int → Int → Int → Int → Int → ByteArray → Sl → Sl → Sl → Sl → World → Prop} (h : Var w g d.cells) (hK : K p d.kind d.alg d.size d.blk d.off d.loc (str d.name) d.salt.1 d.dig.1 d.key.1 d.val.1 w) :
    ∃ v, (loadVar t (at_ g 0)).run P w = .ok v w ∧ decR [.one .ptr, .agg lD] (.tuple #[.pointer p, v]) K fun r => r w :=
  ⟨.agg d.cells.toArray, loadVar_agg t (n := 11) rfl (fun j v hv => by rw [Addr.add_lit, Nat.zero_add]; exact h.cell hv), hK⟩
/-! ### seeds -/
structure SV where
  alg : Int
  blk : Int
  mode : Int
  salt : Sl × List UInt8
  data : Sl × List UInt8
def SV.cells (y : SV) : List Value := [.int .i64 y.alg, .int .i64 y.blk, .int .i64 y.mode, slV y.salt.1, slV y.data.1]
structure SV.Ok (w : World) (y : SV) : Prop where
  alg : -9223372036854775808 ≤ y.alg ∧ y.alg ≤ 9223372036854775807
  blk : -9223372036854775808 ≤ y.blk ∧ y.blk ≤ 9223372036854775807
  mode : -9223372036854775808 ≤ y.mode ∧ y.mode ≤ 9223372036854775807
  salt : Bts w y.salt.1 y.salt.2
  data : Bts w y.data.1 y.data.2
theorem SV.Ok.ext {w w' : World} {y : SV} (h : y.Ok w) (e : Ext w w') : y.Ok w' := ⟨h.alg, h.blk, h.mode, h.salt.ext e, h.data.ext e⟩
theorem open_Seed {W : World} {c : List Value} (hc : KindsR W [.int .i64, .int .i64, .int .i64, .bts, .bts] c) : ∃ y : SV, c = y.cells ∧ y.Ok W := by
  obtain ⟨v1, c, rfl, h1, hc⟩ := kinds_cons hc
  obtain ⟨v2, c, rfl, h2, hc⟩ := kinds_cons hc
  obtain ⟨v5, c, rfl, h5, hc⟩ := kinds_cons hc
  obtain ⟨v3, c, rfl, h3, hc⟩ := kinds_cons hc
  obtain ⟨v4, c, rfl, h4, hc⟩ := kinds_cons hc
  obtain rfl := kinds_nil hc
  obtain ⟨n1, rfl, b1⟩ := ok_int h1
  obtain ⟨n2, rfl, b2⟩ := ok_int h2
  obtain ⟨n5, rfl, b5⟩ := ok_int h5
  obtain ⟨x3, rfl, b3⟩ := ok_bts h3
  obtain ⟨x4, rfl, b4⟩ := ok_bts h4
  exact ⟨⟨n1, n2, n5, x3, x4⟩, rfl, wf_i64 b1, wf_i64 b2, wf_i64 b5, b3, b4⟩
def SV.x (y : SV) : S.Shp := shp9 y.alg y.blk y.data.2
def SV.H (y : SV) : List UInt8 → List UInt8 := S.dg y.alg y.salt.2
def SV.T (y : SV) : List UInt8 := y.x.tree y.H y.data.2
def SV.part (y : SV) : List UInt8 := S.vPart y.data.2 y.T
def SV.root (y : SV) : List UInt8 := y.x.root y.H y.data.2
def SV.ask (y : SV) : Int := askErr y.alg y.salt.2 y.x
def SV.small (y : SV) : Bool := (decide (y.salt.2.length ≤ 64) && decide (y.data.2.length ≤ 1500)) && decide (y.blk ≤ 4096)
/-- The descriptor. -/
def SV.d (y : SV) (r : Sl) : DM := ⟨1, y.alg, (y.data.2.length : Int), y.blk, (S.vOff y.data.2.length : Int), 0, pn, y.salt, (r, y.root), (Sl.nil, []), (Sl.nil, [])⟩
def SV.des (y : SV) : S.Des := ⟨1, y.alg, (y.data.2.length : Int), y.blk, (S.vOff y.data.2.length : Int), 0, pn, y.salt.2, y.root, [], []⟩
abbrev lV : List Lf := [.int .i64, .int .i64, .int .i64, .slc, .slc]
theorem ldSV_i {P : Program} {t g : Nat} {w : World} [AggTy P t 5] {y : SV} {K : Int → Int → Int → Sl → Sl → World → Prop} (hv : Var w g y.cells) (hK : K y.alg y.blk y.mode y.salt.1 y.data.1 w) :
    semS P (Instr.loadAt t (.pointer (some (at_ g 0)))) (.agg lV) K w :=
  ldV_i (n := 5) (ls := lV) 0 hv (Nat.le_refl 5) hK
section
variable {y : SV}
theorem seedSmallV_s {K : Bool → World → Prop} {w : World} (h1 : y.salt.1.len = y.salt.2.length) (h2 : y.data.1.len = y.data.2.length) (hK : ∀ w', Ext w w' → K y.small w') :
    callS Tryz.prog 6 #[.agg y.cells.toArray] [.one .bool] K w := by
  refine f6_ok ?_
  unfold f6
  refine box_i fun g w1 e1 hg v1 => ?_
  have v1 : Var w1 g y.cells := v1
  refine ld1_i (l := .slc) (o := 3) y.salt.1 v1 rfl ?_
  refine joinAnd (x := decide (y.data.2.length ≤ 1500)) (fun w2 e2 => ?_) fun J hJ _ => ?_
  rotate_left
  · refine ld1_i (l := .slc) (o := 4) y.data.1 v1 rfl ?_
    rw [show decide ((y.data.1.len : Int) ≤ 1500) = decide (y.data.2.length ≤ 1500) from decide_eq_decide.2 (by omega)]
    exact hJ _ (Fr.refl _ _)
  refine joinAnd (x := decide (y.blk ≤ 4096)) (fun w3 e3 => ?_) fun J hJ _ => ?_
  rotate_left
  · exact ld1_i (l := .int .i64) (o := 1) y.blk (v1.ext e2) rfl (hJ _ (Fr.refl _ _))
  have := hK w3 ((e1.trans e2).trans e3)
  rw [show decide ((y.salt.1.len : Int) ≤ 64) = decide (y.salt.2.length ≤ 64) from decide_eq_decide.2 (by omega)]
  exact this
theorem SV.len (h : y.ask = 0) (z : List UInt8) : (y.H z).length = y.x.dN := hlen9 (askErr_ok h).1 z
theorem SV.xok (h : y.ask = 0) : y.x.Ok := S.Shp.ok_of (askErr_ok h).2.2.1
theorem SV.T_len (h : y.ask = 0) (hd : y.data.2.length ≤ 1500) : y.T.length ≤ 200000 := by
  have o := SV.xok h
  have h1 := S.Shp.tr_len (data := y.data.2) o (SV.len h) y.x.h
  have h2 := S.Shp.c0_le o
  have h3 := S.Shp.h_le o
  have hb := o.b2
  have hsN : y.x.sN = y.data.2.length := rfl
  have h4 := Nat.mul_le_mul h3 (show y.x.c 0 * y.x.bN ≤ 5596 by omega)
  show (y.x.tr y.H y.data.2 y.x.h).length ≤ _
  omega
theorem pn_made {k : Nat} (h1 : 64 ≤ k) (h2 : k ≤ 1048576) (h3 : k % 64 = 0) : S.made [(pn, (k : Int))] = 0 := by
  have hok : ∀ i, i < [(pn, (k : Int))].length → S.okAt [(pn, (k : Int))] i = true := fun i hi => by
    have h0 : i = 0 := by simp at hi; omega
    subst h0
    show (((((S.named pn && !false) && decide (64 ≤ (k : Int))) && decide ((k : Int) ≤ 1048576)) && decide ((k : Int) % 64 = 0))) = true
    rw [show S.named pn = true by decide, decide_eq_true (show 64 ≤ (k : Int) by omega), decide_eq_true (show (k : Int) ≤ 1048576 by omega), decide_eq_true (show (k : Int) % 64 = 0 by omega)]; rfl
  rw [S.made_good (by simp) hok, if_neg]
  unfold S.tot
  simp only [List.map_cons, List.map_nil, List.sum_cons, List.sum_nil]
  omega
/-- What a seed gives: the drive with its partition, and the descriptor. -/
theorem made_s {K : Option Addr → Int → Int → Int → Int → Int → Int → ByteArray → Sl → Sl → Sl → Sl → World → Prop} {w w0 : World} (hy : y.Ok w) (ht : Tabs9 w0) (e0 : Ext w0 w) (hd : y.data.2.length ≤ 1500)
    (hNil : y.ask ≠ 0 → ∀ w', Ext w w' → K none 0 0 0 0 0 0 (str []) Sl.nil Sl.nil Sl.nil Sl.nil w')
    (hOk : y.ask = 0 → ∀ gd L r w', Ext w w' → (∀ k, L.inD gd k → w.heap.size ≤ k) → P1 w0 w' w'.heap.size gd L y.part (fun _ => false) → OwnB w' w.heap.size r y.root → (∀ k, r.inB k → ¬ L.inD gd k) →
      K (some (at_ gd 0)) (y.d r).kind (y.d r).alg (y.d r).size (y.d r).blk (y.d r).off (y.d r).loc (str (y.d r).name) (y.d r).salt.1 (y.d r).dig.1 (y.d r).key.1 (y.d r).val.1 w') :
    callS Tryz.prog 7 #[.agg y.cells.toArray] [.one .ptr, .agg lD] K w := by
  refine f7_ok ?_
  unfold f7
  have hdl := Bts.len hy.data
  have ht := ht.ext e0
  refine box_i fun g w1 e1 hg v1 => ?_
  have v1 : Var w1 g y.cells := v1
  refine alloc_i fun g2 w2 e2 hg2 v2 => ?_
  have E2 := e1.trans e2
  have v12 := v1.ext e2
  refine ld1_i (l := .int .i64) (o := 0) y.alg v12 rfl ?_
  refine ld1_i (l := .slc) (o := 3) y.salt.1 v12 rfl ?_
  refine ld1_i (l := .int .i64) (o := 1) y.blk v12 rfl ?_
  refine ld1_i (l := .slc) (o := 4) y.data.1 v12 rfl ?_
  have s1 := e1.size
  have s2 := e2.size
  have hg2' : w.heap.size ≤ g2 := by omega
  refine make_s (salt := y.salt.2) (data := y.data.2) (ht.ext E2) (hy.salt.ext E2) (hy.data.ext E2) (by omega) (fun he w3 e3 => ?_) fun hask t r w3 e3 ot or => ?_
  · refine cond_i (fun _ => ?_) (fun h => absurd (bne_eq_false_iff_eq.1 h) he)
    refine stD_i (d := ⟨0, 0, 0, 0, 0, 0, [], (Sl.nil, []), (Sl.nil, []), (Sl.nil, []), (Sl.nil, [])⟩) (v2.ext e3) rfl fun w4 f4 v4 => ?_
    exact resPD_i v4 (hNil he w4 (Fr.own1 (E2.trans e3) f4 hg2'))
  have hask : y.ask = 0 := hask
  refine cond_i (fun h => by cases h) (fun _ => ?_)
  have ot : OwnB w3 w2.heap.size t y.T := ot
  have or : OwnB w3 w2.heap.size r y.root := or
  have E3 := E2.trans e3
  have v13 := v12.ext e3
  have htl := OwnB.len ot
  have hT := SV.T_len hask hd
  have ho := S.vOff_ge y.data.2.length
  have hz := S.vSize_ge y.data.2.length y.T.length
  refine ld1_i (l := .slc) (o := 4) y.data.1 v13 rfl ?_
  have hoff : IntKind.wrap .i64 ((IntKind.wrap .i64 (Int.tdiv (IntKind.wrap .i64 ((y.data.1.len : Int) + 63)) 64)) * 64) = ((S.vOff y.data.2.length : Nat) : Int) := by
    rw [hdl, show (y.data.2.length : Int) + 63 = ((y.data.2.length + 63 : Nat) : Int) by omega, wrap_nat (by omega), show (64 : Int) = ((64 : Nat) : Int) from rfl, S.tdiv_n, wrap_nat (by omega), ← Int.natCast_mul, wrap_nat (by omega)]; rfl
  have hsize : IntKind.wrap .i64 ((IntKind.wrap .i64 (Int.tdiv (IntKind.wrap .i64 ((IntKind.wrap .i64 (((S.vOff y.data.2.length : Nat) : Int) + (t.len : Int))) + 127)) 64)) * 64) = ((S.vSize y.data.2.length y.T.length : Nat) : Int) := by
    rw [htl, ← Int.natCast_add, wrap_nat (by omega), show ((S.vOff y.data.2.length + y.T.length : Nat) : Int) + 127 = ((S.vOff y.data.2.length + y.T.length + 127 : Nat) : Int) by omega, wrap_nat (by omega), show (64 : Int) = ((64 : Nat) : Int) from rfl, S.tdiv_n, wrap_nat (by omega), ← Int.natCast_mul, wrap_nat (by unfold S.vSize at hz; omega)]; rfl
  rw [hoff, hsize]
  have hmade : S.made [(pn, ((S.vSize y.data.2.length y.T.length : Nat) : Int))] = 0 := pn_made (by omega) (by omega) hz.2.2
  refine newOne_s (name := pn) rfl ⟨by omega, by omega⟩ (by decide) (fun w4 e4 h => absurd hmade h) fun gd L w4 e4 _ hgd hin d4 => ?_
  refine cond_i (fun h => by cases h) (fun _ => ?_)
  rw [Int.toNat_natCast] at d4
  have E4 := E3.trans e4
  have v14 := v13.ext e4
  have v24 := (v2.ext e3).ext e4
  refine ld1_i (l := .slc) (o := 4) y.data.1 v14 rfl ?_
  have s3 := e3.size
  have s4 := e4.size
  have hgl := v1.lt
  have hg2l := v2.lt
  have hin' : ∀ k, L.inD gd k → w3.heap.size ≤ k := hin
  have hb0 : (List.replicate (S.vSize y.data.2.length y.T.length) (0 : UInt8)).length = S.vSize y.data.2.length y.T.length := List.length_replicate
  generalize hR : List.replicate (S.vSize y.data.2.length y.T.length) (0 : UInt8) = R at d4 hb0
  have hw1 : S.within 0 (y.data.2.length : Int) (R.length : Int) = true := S.within_iff.2 ⟨by omega, by omega, by omega, by omega, by omega⟩
  refine dWrite_s (name := ByteArray.mk #[112]) d4 ⟨by omega, by omega⟩ (hy.data.ext E4) (by omega) (fun hne a ha hk => by
    have := rd_lt hy.data (by simpa using hne) ha
    have := hin' _ hk
    omega) fun w5 f5 d5 => ?_
  rw [show (ByteArray.mk #[112]).toList = pn from str_toList pn, S.write_one hw1 (by decide)] at d5
  have hB1 : (S.over R y.data.2 (0 : Int).toNat fun _ => true) = S.over R y.data.2 0 fun _ => true := rfl
  rw [hB1] at d5
  have hl1 : (S.over R y.data.2 0 fun _ => true).length = S.vSize y.data.2.length y.T.length := by rw [S.over_length, hb0]
  have hpart : S.over (S.over R y.data.2 0 fun _ => true) y.T (S.vOff y.data.2.length) (fun _ => true) = y.part := by rw [← hR]; rfl
  generalize S.over R y.data.2 0 (fun _ => true) = R1 at d5 hl1 hpart
  have hw2 : S.within ((S.vOff y.data.2.length : Nat) : Int) (y.T.length : Int) (R1.length : Int) = true := S.within_iff.2 ⟨by omega, by omega, by omega, by omega, by omega⟩
  have hne : ∀ k, k < w3.heap.size → ¬ L.inD gd k := fun k hk hd => by have := hin' k hd; omega
  have E5 : Ext w3 w5 := Ext.own e4 f5 hin'
  have t5 := ot.ext E5
  refine dWrite_s (name := ByteArray.mk #[112]) (off := ((S.vOff y.data.2.length : Nat) : Int)) d5 ⟨by omega, by omega⟩ t5.rd (by omega) (fun _ a ha hk => hne _ (ot.lt ha).2 hk) fun w6 f6 d6 => ?_
  rw [show (ByteArray.mk #[112]).toList = pn from str_toList pn, S.write_one hw2 (by decide), Int.toNat_natCast, hpart] at d6
  have E6 : Ext w3 w6 := Ext.own E5 f6 hin'
  have hdr := Ext.drew w6
  have v16 := v13.ext E6
  refine ⟨fun x => Ext w6 x, hdr, ?_⟩
  refine ld1Q_i (l := .int .i64) (o := 0) y.alg (fun x hx => v16.ext hx) rfl ?_
  refine ld1Q_i (l := .slc) (o := 4) y.data.1 (fun x hx => v16.ext hx) rfl ?_
  refine ld1Q_i (l := .int .i64) (o := 1) y.blk (fun x hx => v16.ext hx) rfl ?_
  refine ld1Q_i (l := .slc) (o := 3) y.salt.1 (fun x hx => v16.ext hx) rfl ?_
  rw [hdl]
  have v26 : Var w6.drew g2 _ := ((v2.ext e3).ext E6).ext hdr
  refine stD_i (d := y.d r) v26 rfl fun w7 f7 v7 => ?_
  have g2no : ∀ k, L.inD gd k → ¬ k = g2 := fun k hk e => by have := hin' k hk; omega
  have EE : Ext w3 w6.drew := E6.trans hdr
  have E7 : Ext w w7 := Fr.own1 (E3.trans EE) f7 hg2'
  have d7 := (d6.ext hdr).fr f7 g2no
  have o7 := (or.ext EE).fr f7 fun a ha e => by have := (or.lt ha).1; omega
  exact resPD_i v7 (hOk hask gd L r w7 E7 (fun k hk => by have := hin' k hk; omega) ⟨⟨0, 0, d7⟩, fun k hk => ⟨by have := hin' k hk; have := e0.size; omega, d7.lt hk⟩, e0.trans E7⟩ (o7.base (by omega)) fun k hk hd => hne k (or.inB hk).2 hd)
end
end Go.Proofs.YteopoodhclljjaaGreatDoor

/-! Ver17e -/
namespace Go.Proofs.YteopoodhclljjaaGreatDoor
open Go Go.Eng
open Go.S (Pl Kn Vq Vr klook vfirst vblk vput)
/-- A reader of a seed's partition. -/
def Rdy (y : SV) (X : VX) : Prop := X.d.pure = y.des
section
variable {y : SV} {X : VX}
theorem Rdy.qe (h : Rdy y X) : X.q = ⟨y.alg, y.salt.2, y.root, y.x, X.mode⟩ := by
  have : X.q = ⟨X.d.pure.alg, X.d.pure.salt, X.d.pure.dig, X.d.pure.shp, X.mode⟩ := rfl
  rw [this, h]; rfl
theorem Rdy.xe (h : Rdy y X) : X.x = y.x := by
  have : X.x = X.d.pure.shp := rfl
  rw [this, h]; rfl
theorem Rdy.oe (h : Rdy y X) : X.d.off = (S.vOff y.data.2.length : Int) := by
  have : X.d.off = X.d.pure.off := rfl
  rw [this, h]; rfl
theorem root_len (ha : y.ask = 0) : y.root.length = y.x.dN := SV.len ha _
theorem SV.vq (ha : y.ask = 0) (m : Int) : VqOk ⟨y.alg, y.salt.2, y.root, y.x, m⟩ := by
  obtain ⟨q1, q2, q3, q4⟩ := askErr_ok ha
  exact ⟨SV.xok ha, q3, q1, q4, q2, root_len ha⟩
theorem Rdy.ok (h : Rdy y X) (ha : y.ask = 0) (hd : y.data.2.length ≤ 1500) : XOk X := by
  have ho := S.vOff_ge y.data.2.length
  refine ⟨by rw [h.qe]; exact SV.vq ha _, ?_⟩
  rw [h.oe]; omega
theorem SV.right (ha : y.ask = 0) (hd : y.data.2.length ≤ 1500) : y.des.right = true := by
  obtain ⟨q1, q2, q3, q4⟩ := askErr_ok ha
  have ho := S.vOff_ge y.data.2.length
  have hal : (y.alg == 1 || y.alg == 2) = true := by
    rcases S.dsz_ne q1 with ⟨h, _⟩ | ⟨h, _⟩ <;> rw [h] <;> rfl
  have hrl := root_len ha
  have hdl : decide ((y.root.length : Int) = S.dsz y.alg) = true := decide_eq_true (by rw [hrl, ← q4]; exact (SV.xok ha).d.symm)
  unfold S.Des.right
  have hshp : y.des.shp.right = true := q3
  show (((((((y.des.chain && (y.des.val.length == 0)) && S.named pn) && (((y.alg == 1 || y.alg == 2) && decide ((y.root.length : Int) = S.dsz y.alg)) && decide (y.salt.2.length ≤ 64))) && y.des.shp.right) && decide ((S.vOff y.data.2.length : Int) ≥ (y.data.2.length : Int))) && decide ((S.vOff y.data.2.length : Int) ≤ 1099511627776))) = true
  rw [hal, hdl, hshp, decide_eq_true q2, show S.named pn = true by decide, decide_eq_true (show (S.vOff y.data.2.length : Int) ≥ (y.data.2.length : Int) by omega), decide_eq_true (show (S.vOff y.data.2.length : Int) ≤ 1099511627776 by omega)]
  rfl
theorem SV.openOk (ha : y.ask = 0) (hd : y.data.2.length ≤ 1500) (r : Sl) (m : Int) : openOk (y.d r) m = (!decide (m < 0) && !decide (m > 1)) := by
  unfold Go.Proofs.YteopoodhclljjaaGreatDoor.openOk
  rw [show (y.d r).pure.right = true from SV.right ha hd]
  show ((((true && true) && !decide (m < 0)) && !decide (m > 1)) : Bool) = _
  simp
theorem SV.dSm (ha : y.ask = 0) (hd : y.data.2.length ≤ 1500) (r : Sl) : (y.d r).Sm := by
  obtain ⟨q1, q2, q3, q4⟩ := askErr_ok ha
  have hrl := root_len ha
  have hdd := (SV.xok ha).dd
  exact ⟨by show pn.length ≤ _; decide, by show y.salt.2.length ≤ _; omega, by show y.root.length ≤ _; omega, by show ([] : List UInt8).length ≤ _; decide, by show ([] : List UInt8).length ≤ _; decide⟩
theorem SV.dOk {w : World} (hy : y.Ok w) (ha : y.ask = 0) (hd : y.data.2.length ≤ 1500) {r : Sl} (hr : Bts w r y.root) : (y.d r).Ok w := by
  have ho := S.vOff_ge y.data.2.length
  exact ⟨⟨by show (-9223372036854775808 : Int) ≤ 1; omega, by show (1 : Int) ≤ 9223372036854775807; omega⟩, hy.alg, ⟨by show (-9223372036854775808 : Int) ≤ (y.data.2.length : Int); omega, by show (y.data.2.length : Int) ≤ 9223372036854775807; omega⟩, hy.blk,
    ⟨by show (-9223372036854775808 : Int) ≤ (S.vOff y.data.2.length : Int); omega, by show (S.vOff y.data.2.length : Int) ≤ 9223372036854775807; omega⟩, ⟨by show (-9223372036854775808 : Int) ≤ 0; omega, by show (0 : Int) ≤ 9223372036854775807; omega⟩, by show pn.length ≤ _; decide, hy.salt, hr, Rd.nilSl _ _, Rd.nilSl _ _⟩
theorem Rdy.fair (h : Rdy y X) (ha : y.ask = 0) : FFair X.q y.data.2 (X.F y.part fun _ => false) := by
  intro p h1 h2
  have hF : X.F y.part (fun _ => false) = S.vfetch y.x (S.vOff y.data.2.length : Int) (S.vPart y.data.2 y.T) fun _ => false := by
    unfold VX.F
    rw [h.xe, h.oe]; rfl
  rw [h.qe] at h1 h2 ⊢
  rw [hF]
  exact S.vfetch_fair (SV.xok ha) (SV.len ha) rfl p h1 h2
theorem Rdy.root (h : Rdy y X) : X.q.dig = X.q.x.root (S.dg X.q.a X.q.salt) y.data.2 := by rw [h.qe]; rfl
end
/-! ### a reader over a drive that has the seed's bytes -/
section
variable {y : SV} {X : VX} {V : VM} {w0 w : World} {B : Nat} {L : Lay}
structure GoodR (w : World) (B : Nat) (y : SV) (X : VX) (V : VM) : Prop where
  at_ : VrAt w B X V
  rdy : Rdy y X
  ok : VOk X.q (knP V.kn)
  fair : VFair X.q y.data.2 (knP V.kn)
  whole : V.broken = false
theorem GoodR.fr {S : Nat → Prop} {w' : World} (h : GoodR w B y X V) (hf : Fr S w w') (hs : ∀ k, V.mut X k ∨ V.imm X k → ¬ S k) : GoodR w' B y X V := ⟨h.at_.fr hf hs, h.rdy, h.ok, h.fair, h.whole⟩
theorem GoodR.ext {w' : World} (h : GoodR w B y X V) (e : Ext w w') : GoodR w' B y X V := h.fr e fun _ _ => id
theorem GoodR.new {w1 : World} {gr gd m : Nat} {d' : DM} {mode : Int} (h : VrAt w1 B ⟨gr, gd, d', mode⟩ (VM.fresh m)) (hd : d'.pure = y.des) : GoodR w1 B y ⟨gr, gd, d', mode⟩ (VM.fresh m) :=
  ⟨h, hd, VOk.nil _, (fun e he => by cases he), rfl⟩
def fairIn (y : SV) (i : Int) : Prop := 0 ≤ i ∧ i < y.x.c 0
instance (y : SV) (i : Int) : Decidable (fairIn y i) := by unfold fairIn; infer_instance
def fairB (y : SV) (i : Int) : List UInt8 := if fairIn y i then y.x.blk y.H y.data.2 0 i.toNat else []
def fairE (y : SV) (i : Int) : Int := if fairIn y i then 0 else 13
def fairT (y : SV) (i : Int) : List (List UInt8) := if fairIn y i then y.x.onPath y.H y.data.2 i.toNat else []
theorem vReadF_s {i : Int} {K : Sl → Int → World → Prop} (h : GoodR w B y X V) (hP : P1 w0 w B X.gd L y.part fun _ => false) (ha : y.ask = 0) (hd : y.data.2.length ≤ 1500) (ht : Tabs9 w0) (hi : S.I64 i)
    (hK : ∀ (v : Sl) w' V', Fr (fun k => k = X.gd ∨ V.mut X k) w w' → P1 w0 w' B X.gd L y.part (fun _ => false) → GoodR w' B y X V' → (∀ k, V'.mut X k ∨ V'.imm X k → V.mut X k ∨ V.imm X k ∨ w.heap.size ≤ k) → V'.trc.map (·.2) = fairT y i →
      (∀ n : Nat, i = n → n < y.x.c 0 → ∃ BB, knP V'.kn = vput X.q n BB (knP V.kn) (vfirst X.q (knP V.kn) n - 1)) → OwnB w' w.heap.size v (fairB y i) → (∀ k, v.inB k → ¬ (V'.mut X k ∨ V'.imm X k)) → K v (fairE y i) w') :
    callS Tryz.prog 16 #[.pointer (some (at_ X.gr 0)), .int .i64 i] [.one .slc, .one (.int .i64)] K w := by
  have hx := h.rdy.ok ha hd
  have hF := h.rdy.fair ha
  refine vRead_s h.at_ hP hx ht h.ok hi fun v w' V' f P' h' hp hmi o hv => ?_
  obtain ⟨f1, f2, f3, f4⟩ := vread_fair hx.q hF h.rdy.root (R := V.pure) h.ok h.fair h.whole i
  obtain ⟨g1, _, _⟩ := vread_ok hx.q (fun p h1 h2 h3 => VX.F_len hx p h1 h2 h3) (F := X.F y.part fun _ => false) (R := V.pure) h.ok i
  generalize hR : vread (X.F y.part fun _ => false) X.q V.pure i = R at hp o f1 f2 f3 f4 g1 ⊢
  have hk' : knP V'.kn = R.2.2.known := congrArg Vr.known hp
  have hb' : V'.broken = R.2.2.broken := congrArg Vr.broken hp
  have ht' : V'.trc.map (·.2) = R.2.2.trace := congrArg Vr.trace hp
  have hgood : GoodR w' B y X V' := ⟨h', h.rdy, by rw [hk']; exact g1, by rw [hk']; exact f1, by rw [hb']; exact f2⟩
  have hqx : X.q.x = y.x := by rw [h.rdy.qe]
  have hqH : S.dg X.q.a X.q.salt = y.H := by rw [h.rdy.qe]; rfl
  rw [hqx] at f3
  rw [hqx, hqH] at f4
  by_cases hin : fairIn y i
  · obtain ⟨n, rfl⟩ : ∃ n : Nat, i = n := ⟨i.toNat, by have := hin.1; omega⟩
    have hn : n < y.x.c 0 := by have := hin.2; omega
    obtain ⟨q1, q2, q3, q4⟩ := f4 n rfl hn
    rw [q2]
    rw [q1] at o
    rw [q3] at ht'
    have e1 : fairB y n = y.x.blk y.H y.data.2 0 n := by unfold fairB; rw [if_pos hin, Int.toNat_natCast]
    have e2 : fairT y n = y.x.onPath y.H y.data.2 n := by unfold fairT; rw [if_pos hin, Int.toNat_natCast]
    have e3 : fairE y n = 0 := if_pos hin
    rw [← e3]
    refine hK v w' V' f P' hgood hmi (by rw [e2]; exact ht') (fun m hm _ => ?_) (by rw [e1]; exact o) hv
    obtain rfl : n = m := by omega
    obtain ⟨BB, hBB⟩ := q4
    exact ⟨BB, by rw [hk', hBB]; rfl⟩
  · obtain ⟨q1, q2, q3⟩ := f3 hin
    rw [q2]
    rw [q1] at o
    rw [q3] at ht'
    have e1 : fairB y i = [] := if_neg hin
    have e2 : fairT y i = [] := if_neg hin
    have e3 : fairE y i = 13 := if_neg hin
    rw [← e3]
    exact hK v w' V' f P' hgood hmi (by rw [e2]; exact ht') (fun m hm hc => absurd ⟨by omega, by omega⟩ hin) (by rw [e1]; exact o) hv
theorem vput_fill {q : Vq} {n : Nat} {BB : Nat → List UInt8} : (vput q n BB [] 3).length = 3 := by simp [vput]
set_option maxHeartbeats 1000000 in
set_option maxRecDepth 10000 in
theorem anchor17_s {K : Bool → World → Prop} {w : World} (ht : Tabs9 w) (hK : ∀ w', Ext w w' → K true w') : callS Tryz.prog 5 #[] [.one .bool] K w := by
  refine f5_ok ?_
  unfold f5
  refine makeB_i (by decide) (by decide) fun v w1 e1 o1 => ?_
  rw [show (300 : Int).toNat = 300 from rfl] at o1
  have hdz : (List.replicate 300 (0 : UInt8)).length = 300 := List.length_replicate
  generalize hz : List.replicate 300 (0 : UInt8) = Z at o1 hdz
  refine alloc_i fun g w2 e2 hg v2 => ?_
  refine stV_i (n := 5) (vs := [.int .i64 1, .int .i64 64, .int .i64 0, slV Sl.nil, slV v]) 0 v2 rfl (Nat.le_refl 5) (fun u hu => by
    simp only [List.mem_cons, List.not_mem_nil, or_false] at hu
    rcases hu with rfl | rfl | rfl | rfl | rfl <;> rfl) fun w3 f3 v3 => ?_
  have s1 := e1.size
  have e13 : Ext w1 w3 := Fr.own1 e2 f3 hg
  have v3 : Var w3 g [.int .i64 1, .int .i64 64, .int .i64 0, slV Sl.nil, slV v] := v3
  have o3 := o1.ext e13
  refine ld1_i (l := .slc) (o := 4) v v3 rfl ?_
  have hvl := OwnB.len o3
  refine put1_i (7 : UInt8) o3 (by omega) (by omega) rfl fun w4 f4 o4 => ?_
  rw [show (299 : Int).toNat = 299 from rfl] at o4
  have hvg : ∀ k, v.inB k → k < w1.heap.size := fun k hk => (o1.inB hk).2
  have v4 : Var w4 g [.int .i64 1, .int .i64 64, .int .i64 0, slV Sl.nil, slV v] := v3.fr f4 fun h => by have := hvg _ h; omega
  have E4 : Ext w w4 := Ext.own (e1.trans e13) f4 fun i hi => (o1.inB hi).1
  obtain ⟨data, hdata⟩ : ∃ data, data = Z.set 299 7 := ⟨_, rfl⟩
  rw [← hdata] at o4
  have hlen : data.length = 300 := by rw [hdata, List.length_set, hdz]
  have hget : data[299]? = some 7 := by rw [hdata, List.getElem?_set]; simp [hdz]
  clear hdata hz o3 o1
  obtain ⟨y, hy⟩ : ∃ y : SV, y = ⟨1, 64, 0, (Sl.nil, []), (v, data)⟩ := ⟨_, rfl⟩
  have hyo : y.Ok w4 := by rw [hy]; exact ⟨show (-9223372036854775808 : Int) ≤ 1 ∧ (1 : Int) ≤ 9223372036854775807 by decide, show (-9223372036854775808 : Int) ≤ 64 ∧ (64 : Int) ≤ 9223372036854775807 by decide, show (-9223372036854775808 : Int) ≤ 0 ∧ (0 : Int) ≤ 9223372036854775807 by decide, Rd.nilSl _ _, o4.rd⟩
  have hyx : y.x = ⟨300, 64, 32⟩ := by
    rw [hy]
    show (⟨(data.length : Int), 64, S.dsz 1⟩ : S.Shp) = _
    rw [hlen]; rfl
  have hask : y.ask = 0 := by
    refine askErr_of (by rw [hy]; show S.dsz 1 ≠ 0; decide) (by rw [hy]; show ([] : List UInt8).length ≤ 64; decide) (by rw [hyx]; decide) ?_
    rw [hyx, hy]; rfl
  have hdat : y.data.2 = data := by rw [hy]
  have hdl : y.data.2.length ≤ 1500 := by rw [hdat, hlen]; omega
  refine ldSV_i (y := y) (by rw [hy]; exact v4) ?_
  refine made_s (y := y) hyo ht E4 hdl (fun h => absurd hask h) fun _ gd L r w5 e5 hin hP or _ => ?_
  refine alloc_i fun g2 w6 e6 hg2 v6 => ?_
  refine stD_i (d := y.d r) v6 rfl fun w7 f7 v7 => ?_
  have e57 : Ext w5 w7 := Fr.own1 e6 f7 hg2
  refine ptrEq_i ?_
  refine cond_i (fun h => by cases h) (fun _ => ?_)
  refine ldD_i v7 ?_
  have E57 := e5.trans e57
  refine vOpen_s (gd := gd) (d := y.d r) (mode := 0) (nm := ByteArray.mk #[112]) rfl (SV.dOk (hyo.ext E57) hask hdl (or.rd.ext e57)) (SV.dSm hask hdl r) (fun h => by rw [SV.openOk hask hdl] at h; simp at h) fun _ gr m d' w8 e8 h8 hd' => ?_
  have hP8 : P1 w w8 w5.heap.size gd L y.part (fun _ => false) := (hP.ext e57).ext e8
  have s57 := e57.size
  have hG : GoodR w8 w5.heap.size y ⟨gr, gd, d', 0⟩ (VM.fresh m) := GoodR.new (h8.base s57) hd'
  have E8 := E4.trans (E57.trans e8)
  refine join_i (fun c w' => c = false ∧ w8 = w') ?_ fun J hJ => ?_
  rotate_left
  · refine cond_i (fun h => by cases h) (fun _ => ?_)
    exact ptrEq_i (hJ _ _ ⟨rfl, rfl⟩)
  rintro c w' ⟨rfl, rfl⟩
  have hc0 : y.x.c 0 = 5 := by rw [hyx]; decide
  have hh : y.x.h = 3 := by rw [hyx]; decide +kernel
  refine join_i (fun c w' => c = false ∧ Ext w8 w') ?_ fun J hJ => ?_
  rotate_left
  · refine cond_i (fun h => by cases h) (fun _ => ?_)
    refine vBlocks_s (X := ⟨gr, gd, d', 0⟩) hG.at_ (hG.rdy.ok hask hdl) fun w9 e9 => ?_
    refine hJ _ _ ⟨?_, e9⟩
    rw [hG.rdy.xe, hc0]; rfl
  rintro c w9 ⟨rfl, e9⟩
  refine cond_i (fun h => by cases h) (fun _ => ?_)
  refine vReadF_s (X := ⟨gr, gd, d', 0⟩) (hG.ext e9) (hP8.ext e9) hask hdl ht (i := 4) ⟨by decide, by decide⟩ fun rb w10 V' f10 P10 G10 _ htr hkn orb _ => ?_
  have hin4 : fairIn y 4 := ⟨by decide, by rw [hc0]; decide⟩
  have hE : fairE y 4 = 0 := if_pos hin4
  have hB : fairB y 4 = S.fit 64 ((data.drop 256).take 64) := by
    unfold fairB
    rw [if_pos hin4, hyx, hdat]; rfl
  rw [hE]
  rw [hB] at orb
  have hl44 : ((data.drop 256).take 64).length = 44 := by rw [List.length_take, List.length_drop, hlen]; rfl
  have hfl : (S.fit 64 ((data.drop 256).take 64)).length = 64 := S.fit_len (by omega)
  have hrl : rb.len = 64 := by rw [OwnB.len orb, hfl]
  have g43 : (S.fit 64 ((data.drop 256).take 64))[43]? = some 7 := by
    unfold S.fit
    rw [List.getElem?_append_left (by omega), List.getElem?_take, if_pos (by decide), List.getElem?_drop]
    exact hget
  have g44 : (S.fit 64 ((data.drop 256).take 64))[44]? = some 0 := by
    unfold S.fit
    rw [List.getElem?_append_right (by omega), hl44]; rfl
  have hw0 : ∀ {k}, (k = gd ∨ (VM.fresh m).mut ⟨gr, gd, d', 0⟩ k) → w.heap.size ≤ k := fun {k} hk => by
    rcases hk with rfl | hk
    · exact (hP.gdlt).1
    · have h1 := (hG.at_.lo k hk).1
      have := hP.gdlt
      omega
  have E10 : Ext w w10 := Ext.own (E8.trans e9) f10 fun i hi => hw0 hi
  refine joinAnd (x := true) (fun w11 e11 => ?_) fun J hJ _ => ?_
  rotate_left
  · exact elem_i (l := .int .u8) (x := ((7 : UInt8).toNat : Int)) orb.rd (by decide) (by omega) (bytes_get? g43) (hJ _ (Fr.refl _ _))
  refine joinAnd (x := true) (fun w12 e12 => ?_) fun J hJ _ => ?_
  rotate_left
  · exact elem_i (l := .int .u8) (x := ((0 : UInt8).toNat : Int)) (Own.ext orb e11).rd (by decide) (by omega) (bytes_get? g44) (hJ _ (Fr.refl _ _))
  have htl : V'.trc.length = 4 := by
    have := congrArg List.length htr
    rw [List.length_map] at this
    rw [this]
    unfold fairT
    rw [if_pos hin4, S.Shp.onPath_len, hh]
  have E12 := e11.trans e12
  refine joinAnd (x := true) (fun w13 e13 => ?_) fun J hJ _ => ?_
  rotate_left
  · refine vTrace_s (X := ⟨gr, gd, d', 0⟩) (G10.ext E12).at_ (by omega) fun tv w14 xs e14 hp hx => ?_
    have hl := hp.len
    have : xs.length = 4 := by have := congrArg List.length hx; rw [List.length_map, List.length_map] at this; omega
    rw [hl, this]
    exact hJ _ e14
  have E13 := E12.trans e13
  have hkl : V'.kn.length = 3 := by
    obtain ⟨BB, hBB⟩ := hkn 4 rfl (by rw [hc0]; decide)
    have hv0 : vfirst (⟨gr, gd, d', 0⟩ : VX).q (knP (VM.fresh m).kn) 4 = 4 := by
      have hqx : (⟨gr, gd, d', 0⟩ : VX).q.x = y.x := by rw [hG.rdy.qe]
      have := S.vfirst_eq (q := (⟨gr, gd, d', 0⟩ : VX).q) (kn := []) (n := 4) (f := 4) (by rw [hqx, hh]; decide) (fun k _ => rfl) (fun h => by rw [hqx, hh] at h; exact absurd h (by decide))
      exact this
    rw [hv0] at hBB
    have := congrArg List.length hBB
    have h3 : (vput (⟨gr, gd, d', 0⟩ : VX).q 4 BB (knP (VM.fresh m).kn) (4 - 1)).length = 3 := vput_fill
    rw [h3] at this
    unfold knP at this
    rwa [List.length_map] at this
  refine joinAnd (x := true) (fun w14 e14 => ?_) fun J hJ _ => ?_
  rotate_left
  · refine vKnown_s (X := ⟨gr, gd, d', 0⟩) (G10.ext E13).at_ (by omega) fun kv w15 e15 ok => ?_
    have hl : kv.len = V'.kn.length := own_map ok
    rw [hl, hkl]
    exact hJ _ e15
  have := hK w14 (E10.trans (E13.trans e14))
  rw [hrl]
  exact this
end
end Go.Proofs.YteopoodhclljjaaGreatDoor
