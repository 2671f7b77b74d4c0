/- Layer 17 (verity): two readers of one drive; the drive, changed; lists of blocks compared. / Layer 17 (verity): a block of the data, turned; a sector that is bad: as plain data. / Layer 15 (the document's partitions): a stretch, read. -/
import Derived.Test.YteopoodhclljjaaGreatDoorG17j
import Derived.Test.YteopoodhclljjaaGreatDoorG17g
import Derived.Test.YteopoodhclljjaaGreatDoorG17i
set_option linter.unusedSimpArgs false
set_option linter.unusedVariables false
/-! Ver17f -/
namespace Go.Proofs.YteopoodhclljjaaGreatDoor
open Go Go.Eng
open Go.S (Pl Kn Vq Vr klook vfirst vblk vput)
section
variable {y : SV} {X X2 : VX} {V V2 : VM} {w0 w w' : World} {B gd : Nat} {L : Lay} {b : List UInt8} {bad : Int → Bool}
def VM.all (V : VM) (X : VX) (k : Nat) : Prop := V.mut X k ∨ V.imm X k
theorem pTurn_s {name : ByteArray} {off : Int} {p : Sl} {xs : List UInt8} {K : Bool → World → Prop} (h : P1 w0 w B gd L b bad) (hn : name = str pn) (ho : S.I64 off) (hp : Bts w p xs) (hbl : xs.length ≤ 68719476736) (hsep : xs ≠ [] → ∀ a, p.a = some a → ¬ L.inD gd a.block)
    (hK : ∀ w', Fr (L.inD gd) w w' → P1 w0 w' B gd L (if S.within off xs.length b.length = true then S.xorAt b xs off.toNat else b) bad → K (S.within off xs.length b.length) w') :
    callS Tryz.prog 35 #[.pointer (some (at_ gd 0)), .string name, .int .i64 off, .slice p.a p.len p.cap] [.one .bool] K w := by
  subst hn
  obtain ⟨c, n, h1⟩ := h.at_
  refine dTurn_s h1 ho hp hbl hsep fun w' f d => ?_
  rw [str_toList, S.turn_one] at d ⊢
  have e0 : Ext w0 w' := Ext.own h.e0 f fun k hk => (h.lo k hk).1
  by_cases hw : S.within off xs.length b.length = true
  · rw [if_pos hw] at d ⊢
    have := hK w' f (by rw [if_pos hw]; exact ⟨⟨c, n, d⟩, h.lo, e0⟩)
    rwa [hw] at this
  · rw [if_neg hw] at d ⊢
    have := hK w' f (by rw [if_neg hw]; exact ⟨⟨c, n, d⟩, h.lo, e0⟩)
    have hf : S.within off xs.length b.length = false := by simpa using hw
    rwa [hf] at this
def badOn (b : List UInt8) (s : Int) : Bool := !decide (s < 0 ∨ s ≥ (b.length : Int) / 64)
theorem pBad_s {name : ByteArray} {s : Int} {on : Bool} {K : Bool → World → Prop} (h : P1 w0 w B gd L b bad) (hn : name = str pn) (ho : S.I64 s)
    (hK : ∀ w', Fr (L.inD gd) w w' → P1 w0 w' B gd L b (if badOn b s = true then fun k => if k = s then on else bad k else bad) → K (badOn b s) w') :
    callS Tryz.prog 36 #[.pointer (some (at_ gd 0)), .string name, .int .i64 s, .bool on] [.one .bool] K w := by
  subst hn
  obtain ⟨c, n, h1⟩ := h.at_
  refine dBad_s h1 ho fun w' f d => ?_
  rw [str_toList, S.badS_one] at d ⊢
  have e0 : Ext w0 w' := Ext.own h.e0 f fun k hk => (h.lo k hk).1
  by_cases hw : s < 0 ∨ s ≥ (b.length : Int) / 64
  · have hb : badOn b s = false := by unfold badOn; rw [decide_eq_true hw]; rfl
    rw [if_pos hw] at d ⊢
    have := hK w' f (by rw [hb]; exact ⟨⟨c, n, d⟩, h.lo, e0⟩)
    rwa [hb] at this
  · have hb : badOn b s = true := by unfold badOn; rw [decide_eq_false hw]; rfl
    rw [if_neg hw] at d ⊢
    have := hK w' f (by rw [hb]; exact ⟨⟨c, n, d⟩, h.lo, e0⟩)
    rwa [hb] at this
end
end Go.Proofs.YteopoodhclljjaaGreatDoor

/-! Pure17c -/
namespace Go.S
open Go Go.Eng
/-- The sector of a byte lies in the stretch. -/
theorem badIn_at {b : List UInt8} {bad : Int → Bool} {p k off : Nat} (h1 : p ≤ off) (h2 : off < p + k) (hb : bad ((off / 64 : Nat) : Int) = true) : (Area.mk [] b bad).badIn (p : Int) (k : Int) = true := by
  unfold Area.badIn
  rw [List.any_eq_true]
  refine ⟨off / 64 - p / 64, ?_, ?_⟩
  · rw [List.mem_range]
    unfold nS
    rw [if_neg (by omega)]
    omega
  · show bad ((p : Int) / 64 + ((off / 64 - p / 64 : Nat) : Int)) = true
    rw [show (p : Int) / 64 + ((off / 64 - p / 64 : Nat) : Int) = ((off / 64 : Nat) : Int) by omega]
    exact hb
section
variable {x : Shp} {H : List UInt8 → List UInt8} {data : List UInt8} {off : Nat}
end
end Go.S
namespace Go.Proofs.YteopoodhclljjaaGreatDoor
open Go Go.Eng
open Go.S (Pl Kn Vq Vr klook vfirst vblk vput)
section
variable {F : Pl → List UInt8 × Int} {q : Vq} {kn : Kn} {n : Nat}
end
end Go.Proofs.YteopoodhclljjaaGreatDoor

/-! Ref15 -/
namespace Go.S
open Go Go.Eng
def bfn (bads : List Bool) : Int → Bool := fun k => decide (0 ≤ k) && bads.getD k.toNat false
theorem bfn_nat (bads : List Bool) (k : Nat) : bfn bads (k : Int) = bads.getD k false := by
  unfold bfn
  rw [decide_eq_true (show (0 : Int) ≤ (k : Int) by omega), Int.toNat_natCast, Bool.true_and]
/-- A stretch's sectors, byte by byte. -/
theorem badIn_bytes {b : List UInt8} {bads : List Bool} {off n : Nat} : (Area.mk [] b (bfn bads)).badIn (off : Int) (n : Int) = (List.range n).any fun j => bads.getD ((off + j) / 64) false := by
  rw [Bool.eq_iff_iff]
  constructor
  · intro h
    unfold Area.badIn at h
    rw [List.any_eq_true] at h
    obtain ⟨k, hk, hb⟩ := h
    rw [List.mem_range] at hk
    unfold nS at hk
    split at hk
    · simp at hk
    · rename_i hn
      have hb' : bfn bads ((off / 64 + k : Nat) : Int) = true := by
        have : ((off : Int) / 64 + (k : Int)) = ((off / 64 + k : Nat) : Int) := by omega
        rw [← this]; exact hb
      rw [bfn_nat] at hb'
      rw [List.any_eq_true]
      refine ⟨max off ((off / 64 + k) * 64) - off, List.mem_range.2 (by omega), ?_⟩
      rw [show (off + (max off ((off / 64 + k) * 64) - off)) / 64 = off / 64 + k by omega]
      exact hb'
  · intro h
    rw [List.any_eq_true] at h
    obtain ⟨j, hj, hb⟩ := h
    rw [List.mem_range] at hj
    exact badIn_at (b := b) (bad := bfn bads) (p := off) (k := n) (off := off + j) (by omega) (by omega) (by rw [bfn_nat]; exact hb)
end Go.S
namespace Go.Proofs.YteopoodhclljjaaGreatDoor
open Go Go.Eng
open Go.S (Pl Kn Vq Vr klook vfirst vblk vput)
/-- The document's list of the one partition, in memory. -/
structure PT where
  l : Sl
  ds : Sl
  bs : Sl
  b : List UInt8
  bads : List Bool
def partC (ds bs : Sl) : List Value := [.string (str pn), slV ds, slV bs]
structure PtRd (w : World) (T : PT) : Prop where
  list : Rd w T.l 3 (partC T.ds T.bs)
  data : Bts w T.ds T.b
  bad : Rd w T.bs 1 (T.bads.map Value.bool)
  size : T.bads.length * 64 = T.b.length
  le : T.b.length ≤ 1048576
theorem PtRd.ext {w w' : World} {T : PT} (h : PtRd w T) (e : Ext w w') : PtRd w' T := ⟨h.list.ext e, h.data.ext e, h.bad.ext e, h.size, h.le⟩
theorem PtRd.one {w : World} {T : PT} (h : PtRd w T) : T.l.len = 1 := by have := h.list.len; simp [partC] at this; omega
theorem rpart_s {T : PT} {nm : ByteArray} {K : Int → World → Prop} {w : World} (h : PtRd w T) (hn : nm = str pn) (hK : K 0 w) : callS Tryz.prog 88 #[.slice T.l.a T.l.len T.l.cap, .string nm] [.one (.int .i64)] K w := by
  subst hn
  refine f88_ok ?_
  unfold f88
  have hl := h.one
  obtain ⟨a, ha⟩ := h.list.some (by omega)
  refine loop_i (fun (x : Int) w' => x = 0 ∧ w = w') (fun _ _ => 0) ⟨rfl, rfl⟩ ?_
  rintro x w' again ⟨rfl, rfl⟩ _
  refine cond_i (fun _ => ?_) (fun h => absurd (show (0 : Int) < (T.l.len : Int) by omega) (of_decide_eq_false h))
  refine ix_i ha (by omega) (by omega) ?_
  refine ld_i (l := .str) (str pn) (by rw [add_add']; exact h.list.cells a ha _ _ rfl) ?_
  refine cond_i (fun _ => hK) (fun h => by simp at h)
theorem rPread_s {T : PT} {nm : ByteArray} {off n : Nat} {K : Sl → Int → World → Prop} {w : World} (h : PtRd w T) (hn : nm = str pn) (ho : off ≤ 4611686018427387904) (hnl : n ≤ 4096)
    (hK : ∀ v w', Ext w w' → Bts w' v (S.pread T.b (S.bfn T.bads) (off : Int) (n : Int)).1 → K v (S.pread T.b (S.bfn T.bads) (off : Int) (n : Int)).2 w') :
    callS Tryz.prog 69 #[.slice T.l.a T.l.len T.l.cap, .string nm, .int .i64 (off : Int), .int .i64 (n : Int)] [.one .slc, .one (.int .i64)] K w := by
  refine f69_ok ?_
  unfold f69
  refine rpart_s h hn ?_
  refine cond_i (fun h => by cases h) (fun _ => ?_)
  have hl := h.one
  have hle := h.le
  have hsz := h.size
  have hdl := Bts.len h.data
  obtain ⟨a, ha⟩ := h.list.some (by omega)
  refine ix_i ha (by omega) (by omega) ?_
  refine ldA_i (n := 3) (ls := [.str, .slc, .slc]) (cs := partC T.ds T.bs) rfl (fun j v hv => by rw [add_add', show (0 : Int).toNat * 3 + j = j by simp]; exact h.list.cells a ha _ _ hv) ?_
  show semS Tryz.prog _ _ _ _
  refine alloc_i fun g w1 e1 hg v1 => ?_
  refine stV_i (n := 3) (vs := partC T.ds T.bs) 0 v1 rfl (Nat.le_refl 3) (fun u hu => by
    simp only [partC, List.mem_cons, List.not_mem_nil, or_false] at hu
    rcases hu with rfl | rfl | rfl <;> rfl) fun w2 f2 v2 => ?_
  have v2 : Var w2 g (partC T.ds T.bs) := v2
  have E2 : Ext w w2 := Fr.own1 e1 f2 hg
  have h2 := h.ext E2
  refine joinOr (x := decide (n > T.b.length)) (fun w3 e3 => ?_) fun J hJ _ => ?_
  rotate_left
  · refine ld1_i (l := .slc) (o := 1) T.ds v2 rfl ?_
    rw [hdl]
    rw [show decide ((n : Int) > (T.b.length : Int)) = decide (n > T.b.length) from decide_eq_decide.2 (by omega)]
    exact hJ _ (Fr.refl _ _)
  have v3 := v2.ext e3
  refine joinOr (x := decide ((off : Int) > (T.b.length : Int) - (n : Int))) (fun w4 e4 => ?_) fun J hJ _ => ?_
  rotate_left
  · refine ld1_i (l := .slc) (o := 1) T.ds v3 rfl ?_
    rw [hdl, wrap_i64 (x := (T.b.length : Int) - (n : Int)) (by omega) (by omega)]
    exact hJ _ (Fr.refl _ _)
  have E4 := (E2.trans e3).trans e4
  have v4 := v3.ext e4
  have h4 := h.ext E4
  by_cases hw : off + n ≤ T.b.length
  · rw [decide_eq_false (show ¬ (off : Int) < 0 by omega), decide_eq_false (show ¬ n > T.b.length by omega), decide_eq_false (show ¬ (off : Int) > (T.b.length : Int) - (n : Int) by omega)]
    refine cond_i (fun h => by cases h) (fun _ => ?_)
    have hend : IntKind.wrap .i64 ((off : Int) + (n : Int)) = ((off + n : Nat) : Int) := by rw [← Int.natCast_add]; exact wrap_nat (by omega)
    rw [hend]
    have hbl : T.bs.len = T.bads.length := by have := h.bad.len; rw [List.length_map] at this; omega
    have hwin : S.within (off : Int) (n : Int) (T.b.length : Int) = true := S.within_iff.2 ⟨by omega, by omega, by omega, by omega, by omega⟩
    have hp : S.pread T.b (S.bfn T.bads) (off : Int) (n : Int) = if (List.range n).any (fun j => T.bads.getD ((off + j) / 64) false) = true then ([], 41) else ((T.b.drop off).take n, 0) := by
      unfold S.pread
      rw [hwin, S.badIn_bytes]; rfl
    refine loop_i (fun (x : Int) w' => ∃ k : Nat, x = ((off + k : Nat) : Int) ∧ k ≤ n ∧ Ext w4 w' ∧ ∀ j, j < k → T.bads.getD ((off + j) / 64) false = false) (fun x _ => off + n - x.toNat) ⟨0, by omega, Nat.zero_le _, Fr.refl _ _, fun j hj => by omega⟩ ?_
    rintro _ w5 again ⟨k, rfl, hk, e5, hno⟩ hag
    have v5 := v4.ext e5
    have h5 := h4.ext e5
    refine cond_i (fun hlt => ?_) (fun hge => ?_)
    · have hlt : k < n := by have : ((off + k : Nat) : Int) < ((off + n : Nat) : Int) := of_decide_eq_true hlt
                             omega
      refine ld1_i (l := .slc) (o := 2) T.bs v5 rfl ?_
      have hq : IntKind.wrap .i64 (Int.tdiv ((off + k : Nat) : Int) 64) = (((off + k) / 64 : Nat) : Int) := by rw [show (64 : Int) = ((64 : Nat) : Int) from rfl, S.tdiv_n]; exact wrap_nat (by omega)
      rw [hq]
      have hix : (off + k) / 64 < T.bads.length := by omega
      refine elem_i (l := .bool) (x := T.bads.getD ((off + k) / 64) false) h5.bad (by omega) (by omega) (by rw [Int.toNat_natCast, List.getElem?_map, List.getElem?_eq_getElem hix]; simp [List.getD_eq_getElem?_getD, hix]; rfl) ?_
      refine cond_i (fun hb => ?_) (fun hb => ?_)
      · have hany : (List.range n).any (fun j => T.bads.getD ((off + j) / 64) false) = true := List.any_eq_true.2 ⟨k, List.mem_range.2 hlt, hb⟩
        have := hK Sl.nil w5 (E4.trans e5)
        rw [hp, if_pos hany] at this
        exact this (Rd.nilSl _ _)
      · have hw1 : IntKind.wrap .i64 (((off + k : Nat) : Int) + 1) = ((off + (k + 1) : Nat) : Int) := by rw [show ((off + k : Nat) : Int) + 1 = ((off + (k + 1) : Nat) : Int) by omega]; exact wrap_nat (by omega)
        rw [hw1]
        refine hag _ w5 ⟨k + 1, rfl, by omega, e5, fun j hj => ?_⟩ (by omega)
        rcases Nat.lt_or_ge j k with h | h
        · exact hno j h
        · rw [show j = k by omega]; exact hb
    · have hkn : k = n := by have : ¬ ((off + k : Nat) : Int) < ((off + n : Nat) : Int) := of_decide_eq_false hge
                             omega
      subst hkn
      refine ld1_i (l := .slc) (o := 1) T.ds v5 rfl ?_
      have hcap := h5.data.cap
      refine sl2_i (by omega) (by omega) (by omega) ?_
      have hc := Bts.cut h5.data (l := off) (hi := off + k) (by omega) (by omega)
      rw [show off + k - off = k by omega] at hc
      have hany : (List.range k).any (fun j => T.bads.getD ((off + j) / 64) false) = false := List.any_eq_false.2 fun j hj => by rw [hno j (List.mem_range.1 hj)]; simp
      have := hK (T.ds.cut 1 off (off + k)) w5 (E4.trans e5)
      rw [hp, if_neg (by rw [hany]; simp)] at this
      simp only [Int.toNat_natCast]
      exact this hc
  · have hp : S.pread T.b (S.bfn T.bads) (off : Int) (n : Int) = ([], 10) := by
      unfold S.pread
      rw [if_pos]
      cases hc : S.within (off : Int) (n : Int) (T.b.length : Int) with
      | false => rfl
      | true => obtain ⟨q1, q2, q3, q4, q5⟩ := S.within_iff.1 hc; omega
    refine cond_i (fun _ => ?_) (fun hc => ?_)
    · have := hK Sl.nil w4 E4
      rw [hp] at this
      exact this (Rd.nilSl _ _)
    · simp only [Bool.or_eq_false_iff, decide_eq_false_iff_not] at hc
      omega
end Go.Proofs.YteopoodhclljjaaGreatDoor
