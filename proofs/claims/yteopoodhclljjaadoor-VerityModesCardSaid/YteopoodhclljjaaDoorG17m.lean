/- Layer 17 (verity): a block of the data, turned; a sector that is bad: as plain data. / Layer 17 (verity): the law VerityModes. -/
import Derived.Test.YteopoodhclljjaaDoorG17j
import Derived.Test.YteopoodhclljjaaDoorG17g
import Derived.Test.YteopoodhclljjaaDoorG17k
import Derived.Test.YteopoodhclljjaaDoorG17l
set_option linter.unusedSimpArgs false
set_option linter.unusedVariables false
/-! Pure17c -/
namespace Go.S
open Go Go.Eng
theorem xorAt_cut {b xs : List UInt8} {off p k : Nat} (h : p + k ≤ off ∨ off + xs.length ≤ p) : ((xorAt b xs off).drop p).take k = (b.drop p).take k := by
  apply List.ext_getElem?
  intro i
  rw [List.getElem?_take, List.getElem?_take]
  split
  · rw [List.getElem?_drop, List.getElem?_drop]
    by_cases hi : p + i < b.length
    · rw [xorAt_get hi, if_neg (by omega)]; simp [hi]
    · rw [List.getElem?_eq_none (by rw [xorAt_length]; omega), List.getElem?_eq_none (by omega)]
  · rfl
/-- The sector of a byte lies in the stretch. -/
theorem badIn_at {b : List UInt8} {bad : Int → Bool} {p k off : Nat} (h1 : p ≤ off) (h2 : off < p + k) (hb : bad ((off / 64 : Nat) : Int) = true) : (Area.mk [] b bad).badIn (p : Int) (k : Int) = true := by
  unfold Area.badIn
  rw [List.any_eq_true]
  refine ⟨off / 64 - p / 64, ?_, ?_⟩
  · rw [List.mem_range]
    unfold nS
    rw [if_neg (by omega)]
    omega
  · show bad ((p : Int) / 64 + ((off / 64 - p / 64 : Nat) : Int)) = true
    rw [show (p : Int) / 64 + ((off / 64 - p / 64 : Nat) : Int) = ((off / 64 : Nat) : Int) by omega]
    exact hb
theorem pread_bad {b : List UInt8} {bad : Int → Bool} {p k off : Nat} (h : p + k ≤ b.length) (h1 : p ≤ off) (h2 : off < p + k) (hb : bad ((off / 64 : Nat) : Int) = true) : pread b bad (p : Int) (k : Int) = ([], 41) := by
  have hw : within (p : Int) (k : Int) (b.length : Int) = true := within_iff.2 ⟨by omega, by omega, by omega, by omega, by omega⟩
  unfold pread
  rw [hw, badIn_at h1 h2 hb]; rfl
section
variable {x : Shp} {H : List UInt8 → List UInt8} {data : List UInt8} {off : Nat}
theorem blk_off (o : x.Ok) (hd : data.length = x.sN) (ho : off < data.length) : off / x.bN < x.c 0 ∧ off / x.bN * x.bN ≤ off ∧ off < off / x.bN * x.bN + x.bN := by
  have hb := o.b1
  have h1 := Nat.div_mul_le_self off x.bN
  have h2 := Nat.lt_div_mul_add (a := off) (show 0 < x.bN by omega)
  refine ⟨?_, h1, h2⟩
  show _ < up x.sN x.bN
  rw [up_iff (by omega) o.s1]; omega
/-- Over a bad sector. -/
theorem vfetch_bad (o : x.Ok) (hd : data.length = x.sN) {bad : Int → Bool} {T : List UInt8} {vo : Int} (ho : off < data.length) (hb : bad ((off / 64 : Nat) : Int) = true) : vfetch x vo (vPart data T) bad (off / x.bN, 0) = ([], 41) := by
  obtain ⟨h1, h2, h3⟩ := blk_off o hd ho
  have hs := vSize_ge data.length T.length
  have hv := vOff_ge data.length
  unfold vfetch
  rw [if_neg (by simp)]
  simp only
  have hle : off / x.bN * x.bN + min x.bN (x.sN - off / x.bN * x.bN) ≤ data.length := by omega
  rw [pread_bad (off := off) (by rw [vPart_len]; omega) h2 (by omega) hb]
  rfl
/-- A byte of the data, turned. -/
theorem vfetch_turn (o : x.Ok) (hH : ∀ y, (H y).length = x.dN) (hd : data.length = x.sN) (ho : off < data.length) {u : UInt8} (hu : u ≠ 0) :
    ∃ z, z ≠ x.blk H data 0 (off / x.bN) ∧ z.length = x.bN ∧ ∀ p : Pl, p.2 ≤ x.h → p.1 < x.c p.2 → vfetch x (vOff data.length : Nat) (xorAt (vPart data (x.tree H data)) [u] off) (fun _ => false) p = (if p = (off / x.bN, 0) then z else x.blk H data p.2 p.1, 0) := by
  obtain ⟨q1, q2, q3⟩ := blk_off o hd ho
  have hs := vSize_ge data.length (x.tree H data).length
  have hv := vOff_ge data.length
  have hb1 := o.b1
  generalize hm : off / x.bN = m at q1 q2 q3
  generalize hfr : m * x.bN = fr at q2 q3
  have hfrom : fr < x.sN := by omega
  have hle : fr + min x.bN (x.sN - fr) ≤ data.length := by omega
  have hz0 : ((vPart data (x.tree H data)).drop fr).take (min x.bN (x.sN - fr)) = (data.drop fr).take (min x.bN (x.sN - fr)) := vPart_data hle
  have hz1 : ((xorAt (vPart data (x.tree H data)) [u] off).drop fr).take (min x.bN (x.sN - fr)) ≠ (data.drop fr).take (min x.bN (x.sN - fr)) := by
    intro he
    rw [← hz0] at he
    have := congrArg (·[off - fr]?) he
    simp only [List.getElem?_take, List.getElem?_drop] at this
    rw [if_pos (by omega), if_pos (by omega), show fr + (off - fr) = off by omega, xorAt_get (by rw [vPart_len]; omega), if_pos (by simp)] at this
    have hlt : off < (vPart data (x.tree H data)).length := by rw [vPart_len]; omega
    rw [List.getElem?_eq_getElem hlt] at this
    have h2 := Option.some.inj this
    rw [Nat.sub_self] at h2
    have h3 : (vPart data (x.tree H data)).getD off 0 = (vPart data (x.tree H data))[off] := by simp [hlt]
    rw [h3] at h2
    have h4 : (vPart data (x.tree H data))[off] ^^^ u = (vPart data (x.tree H data))[off] := h2
    have h5 := congrArg (fun t => (vPart data (x.tree H data))[off] ^^^ t) h4
    simp only [← UInt8.xor_assoc, UInt8.xor_self, UInt8.zero_xor] at h5
    exact hu h5
  have hzl : (((xorAt (vPart data (x.tree H data)) [u] off).drop fr).take (min x.bN (x.sN - fr))).length = min x.bN (x.sN - fr) := by
    rw [List.length_take, List.length_drop, xorAt_length, vPart_len]; omega
  have hdl : ((data.drop fr).take (min x.bN (x.sN - fr))).length = min x.bN (x.sN - fr) := by rw [List.length_take, List.length_drop]; omega
  have hblk : x.blk H data 0 m = fit x.bN ((data.drop fr).take (min x.bN (x.sN - fr))) := by
    show fit x.bN ((data.drop (m * x.bN)).take x.bN) = _
    rw [hfr]
    congr 1
    rcases Nat.le_total x.bN (x.sN - fr) with h | h
    · rw [Nat.min_eq_left h]
    · rw [Nat.min_eq_right h, List.take_of_length_le (by rw [List.length_drop]; omega), List.take_of_length_le (by rw [List.length_drop]; omega)]
  refine ⟨fit x.bN (((xorAt (vPart data (x.tree H data)) [u] off).drop fr).take (min x.bN (x.sN - fr))), ?_, fit_len (by omega), fun p h1 h2 => ?_⟩
  · rw [hblk]
    intro he
    apply hz1
    unfold fit at he
    exact (List.append_inj he (by rw [hzl, hdl])).1
  · have hsame : ∀ {q k : Nat}, q + k ≤ vSize data.length (x.tree H data).length → (q + k ≤ off ∨ off + 1 ≤ q) → pread (xorAt (vPart data (x.tree H data)) [u] off) (fun _ => false) (q : Int) (k : Int) = pread (vPart data (x.tree H data)) (fun _ => false) (q : Int) (k : Int) := fun {q k} hq hk => by
      rw [pread_ok (by rw [xorAt_length, vPart_len]; exact hq) badIn_no, pread_ok (by rw [vPart_len]; exact hq) badIn_no, xorAt_cut hk]
    have hfair := vfetch_fair o hH hd p h1 h2
    by_cases hp : p = (m, 0)
    · subst hp
      rw [if_pos rfl]
      unfold vfetch
      rw [if_neg (by simp)]
      simp only
      rw [hfr, pread_ok (by rw [xorAt_length, vPart_len]; omega) badIn_no, if_pos rfl]
    · rw [if_neg hp, ← hfair]
      unfold vfetch
      split
      · rename_i hl
        obtain ⟨_, r2⟩ := Shp.tree_cut (data := data) o hH hl h1 h2
        rw [show ((vOff data.length : Nat) : Int) + (((p.1 + x.sumA p.2) * x.bN : Nat) : Int) = ((vOff data.length + (p.1 + x.sumA p.2) * x.bN : Nat) : Int) by omega]
        exact hsame (by omega) (.inr (by omega))
      · rename_i hl
        obtain ⟨i, l⟩ := p
        have hl0 : l = 0 := by simpa using hl
        subst hl0
        simp only at h2 ⊢
        have him : i ≠ m := fun e => hp (by rw [e])
        have hfi : i * x.bN < x.sN := (up_iff (by omega) o.s1).1 (show i < up x.sN x.bN from h2)
        have hcase : i * x.bN + x.bN ≤ fr ∨ fr + x.bN ≤ i * x.bN := by
          rcases Nat.lt_or_gt_of_ne him with h | h
          · have := Nat.mul_le_mul_right x.bN (show i + 1 ≤ m by omega)
            rw [Nat.succ_mul, hfr] at this
            exact .inl this
          · have := Nat.mul_le_mul_right x.bN (show m + 1 ≤ i by omega)
            rw [Nat.succ_mul, hfr] at this
            exact .inr this
        rw [hsame (by omega) (by omega)]
end
end Go.S
namespace Go.Proofs.YteopoodhclljjaaDoor
open Go Go.Eng
open Go.S (Pl Kn Vq Vr klook vfirst vblk vput)
section
variable {F : Pl → List UInt8 × Int} {q : Vq} {kn : Kn} {n : Nat}
/-- An error of the drive at the data's block. -/
theorem vread_err0 (hq : VqOk q) {R : Vr} (hv : VOk q R.known) (hb : R.broken = false) (hn : n < q.x.c 0) {e : Int} (he : e ≠ 0) (hF : (F (n, 0)).2 = e) : vread F q R n = ([], e, ⟨false, R.known, []⟩) := by
  have hf1 : 0 < vfirst q R.known n := by
    rcases Nat.eq_zero_or_pos (vfirst q R.known n) with h0 | h0
    · obtain ⟨bb, hbb⟩ := S.vfirst_at (q := q) (kn := R.known) (n := n) (by omega)
      have := (hv.lev _ (S.klook_mem hbb)).1
      rw [h0] at this
      exact absurd this (by show ¬ 1 ≤ 0; omega)
    · exact h0
  have hp0 : q.x.pl n 0 = (n, 0) := by unfold S.Shp.pl; rw [Nat.pow_zero, Nat.div_one]
  have hfind : (List.range (vfirst q R.known n)).find? (fun k => decide ((F (q.x.pl n k)).2 ≠ 0)) = some 0 := by
    rw [List.find?_range_eq_some]
    exact ⟨by rw [hp0, hF]; simpa using he, List.mem_range.2 hf1, fun j hj => by omega⟩
  unfold vread
  rw [if_neg (by rw [hb]; simp), if_neg (fun h => h ⟨by omega, by omega⟩), Int.toNat_natCast, hfind]
  simp only
  rw [hp0, hF]
/-- The data's block, turned. -/
theorem vread_turn (hq : VqOk q) {data z : List UInt8} {R : Vr} (hr : q.dig = q.x.root (S.dg q.a q.salt) data) (hv : VOk q R.known) (hfair : VFair q data R.known) (hb : R.broken = false) (hn : n < q.x.c 0)
    (hF : ∀ p : Pl, p.2 ≤ q.x.h → p.1 < q.x.c p.2 → F p = (if p = (n, 0) then z else q.x.blk (S.dg q.a q.salt) data p.2 p.1, 0)) :
    (S.dg q.a q.salt z = S.dg q.a q.salt (q.x.blk (S.dg q.a q.salt) data 0 n) → (vread F q R n).2.1 = 0 ∧ (vread F q R n).1 = z) ∧
    (S.dg q.a q.salt z ≠ S.dg q.a q.salt (q.x.blk (S.dg q.a q.salt) data 0 n) → vread F q R n = ([], 54, ⟨q.mode == 1, R.known, []⟩)) := by
  have hfl := S.vfirst_le (q := q) (kn := R.known) (n := n)
  have hf1 : 0 < vfirst q R.known n := by
    rcases Nat.eq_zero_or_pos (vfirst q R.known n) with h0 | h0
    · obtain ⟨bb, hbb⟩ := S.vfirst_at (q := q) (kn := R.known) (n := n) (by omega)
      have := (hv.lev _ (S.klook_mem hbb)).1
      rw [h0] at this
      exact absurd this (by show ¬ 1 ≤ 0; omega)
    · exact h0
  have hp0 : q.x.pl n 0 = (n, 0) := by unfold S.Shp.pl; rw [Nat.pow_zero, Nat.div_one]
  have hF0 : ∀ k, k ≤ q.x.h → (F (q.x.pl n k)).2 = 0 := fun k hk => by rw [hF _ hk (path_in hq.x hn k)]
  have hbk : ∀ k, 1 ≤ k → k ≤ q.x.h → vblk F q R.known n k = q.x.blk (S.dg q.a q.salt) data k (n / q.x.aN ^ k) := fun k h1 hk => by
    by_cases h : k < vfirst q R.known n
    · rw [vblk_lo h, hF _ hk (path_in hq.x hn k), if_neg (fun e => by have : k = 0 := congrArg Prod.snd e; omega)]; rfl
    · exact hfair (q.x.pl n k, vblk F q R.known n k) (S.klook_mem (vblk_hi (F := F) hv (by omega) hk))
  have hb0 : vblk F q R.known n 0 = z := by
    rw [vblk_lo hf1, hp0, hF (n, 0) (Nat.zero_le _) hn, if_pos rfl]
  have hlen := S.Shp.blk_len (data := data) hq.x hq.len
  have hlb : ∀ k, k < q.x.h → (vblk F q R.known n (k + 1)).length = q.x.bN := fun k hk => by rw [hbk _ (by omega) (by omega)]; exact hlen _ _
  have hfind : (List.range (vfirst q R.known n)).find? (fun k => decide ((F (q.x.pl n k)).2 ≠ 0)) = none := List.find?_eq_none.2 fun k hk => by
    rw [hF0 k (by have := List.mem_range.1 hk; omega)]; simp
  have hh : ∀ k, 1 ≤ k → k ≤ q.x.h → vhold q n (vblk F q R.known n) k = true := fun k h1 hk => by
    rw [vhold_iff hq hk (hlb k)]
    split
    · rename_i he
      subst he
      rw [hbk _ h1 (Nat.le_refl _), hr]
      have := path_in hq.x hn q.x.h
      rw [S.Shp.h_top hq.x] at this
      rw [Nat.lt_one_iff.1 this]; rfl
    · rw [hbk _ (by omega) (by omega), hbk _ h1 hk, div_pow_succ]
      exact S.Shp.blk_dig hq.x hq.len (path_in hq.x hn k)
  have h0 : vhold q n (vblk F q R.known n) 0 = true ↔ S.dg q.a q.salt z = S.dg q.a q.salt (q.x.blk (S.dg q.a q.salt) data 0 n) := by
    rw [vhold_iff hq (Nat.zero_le _) (hlb 0), hb0]
    split
    · rename_i he
      have hn0 : n = 0 := by
        have := S.Shp.h_top hq.x
        rw [← he] at this
        omega
      rw [hr]
      unfold S.Shp.root
      rw [← he, hn0]
    · rename_i he
      rw [hbk 1 (Nat.le_refl _) (by omega)]
      have hd := S.Shp.blk_dig (data := data) hq.x hq.len (l := 0) (i := n) hn
      have ho : offAt q.x n 0 = n % q.x.aN * q.x.dN := by unfold offAt; rw [Nat.pow_zero, Nat.div_one]
      rw [ho, Nat.pow_one, hd]
      exact eq_comm
  refine ⟨fun he => ?_, fun he => ?_⟩
  · have hall : (List.range (vfirst q R.known n)).any (fun k => !vhold q n (vblk F q R.known n) k) = false := List.any_eq_false.2 fun k hk => by
      have hk' := List.mem_range.1 hk
      rcases Nat.eq_zero_or_pos k with rfl | h
      · rw [h0.2 he]; simp
      · rw [hh k h (by omega)]; simp
    unfold vread
    rw [if_neg (by rw [hb]; simp), if_neg (fun h => h ⟨by omega, by omega⟩), Int.toNat_natCast, hfind]
    simp only
    rw [if_neg (by rw [hall]; simp)]
    exact ⟨rfl, hb0⟩
  · have hall : (List.range (vfirst q R.known n)).any (fun k => !vhold q n (vblk F q R.known n) k) = true := List.any_eq_true.2 ⟨0, List.mem_range.2 hf1, by
      cases hc : vhold q n (vblk F q R.known n) 0 with
      | true => exact absurd (h0.1 hc) he
      | false => rfl⟩
    unfold vread
    rw [if_neg (by rw [hb]; simp), if_neg (fun h => h ⟨by omega, by omega⟩), Int.toNat_natCast, hfind]
    simp only
    rw [if_pos hall]
end
end Go.Proofs.YteopoodhclljjaaDoor

/-! Law17c -/
namespace Go.Proofs.YteopoodhclljjaaDoor
open Go Go.Eng
open Go.S (Pl Kn Vq Vr klook vfirst vblk vput)
section
variable {y : SV} {X X1 X2 : VX} {V V1 V2 : VM} {w0 w w' : World} {B : Nat} {L : Lay} {b : List UInt8} {bad : Int → Bool}
/-- Two readers of one drive. -/
structure Two (w0 w : World) (B : Nat) (L : Lay) (b : List UInt8) (bad : Int → Bool) (X1 X2 : VX) (V1 V2 : VM) : Prop where
  p : P1 w0 w B X1.gd L b bad
  gd : X2.gd = X1.gd
  a1 : VrAt w B X1 V1
  a2 : VrAt w B X2 V2
  sep : ∀ k, V2.all X2 k → ¬ V1.all X1 k
theorem Two.swap (h : Two w0 w B L b bad X1 X2 V1 V2) : Two w0 w B L b bad X2 X1 V2 V1 := ⟨by rw [h.gd]; exact h.p, h.gd.symm, h.a2, h.a1, sep_symm h.sep⟩
theorem Two.ext (h : Two w0 w B L b bad X1 X2 V1 V2) (e : Ext w w') : Two w0 w' B L b bad X1 X2 V1 V2 := ⟨h.p.ext e, h.gd, h.a1.ext e, h.a2.ext e, h.sep⟩
/-- Bytes that were told, and lie apart. -/
structure Kp (w : World) (B : Nat) (X1 X2 : VX) (V1 V2 : VM) (u : Sl) (bs : List UInt8) : Prop where
  rd : Bts w u bs
  sep : ∀ k, u.inB k → ¬ V1.all X1 k ∧ ¬ V2.all X2 k ∧ B ≤ k ∧ k < w.heap.size
theorem Kp.swap {u : Sl} {bs : List UInt8} (h : Kp w B X1 X2 V1 V2 u bs) : Kp w B X2 X1 V2 V1 u bs := ⟨h.rd, fun k hk => by obtain ⟨q1, q2, q3⟩ := h.sep k hk; exact ⟨q2, q1, q3⟩⟩
theorem Kp.ext {u : Sl} {bs : List UInt8} (h : Kp w B X1 X2 V1 V2 u bs) (e : Ext w w') : Kp w' B X1 X2 V1 V2 u bs := ⟨h.rd.ext e, fun k hk => by obtain ⟨q1, q2, q3, q4⟩ := h.sep k hk; exact ⟨q1, q2, q3, Nat.lt_of_lt_of_le q4 e.size⟩⟩
theorem Kp.drv {u : Sl} {bs : List UInt8} {gd : Nat} (h : Kp w B X1 X2 V1 V2 u bs) (hP : P1 w0 w B gd L b bad) (f : Fr (L.inD gd) w w') : Kp w' B X1 X2 V1 V2 u bs :=
  ⟨h.rd.fr f fun a ha hc => by have := (h.sep _ ⟨a, ha, rfl⟩).2.2.1; have := hP.lo _ hc; omega, fun k hk => by obtain ⟨q1, q2, q3, q4⟩ := h.sep k hk; exact ⟨q1, q2, q3, Nat.lt_of_lt_of_le q4 f.size⟩⟩
theorem Two.drv {b' : List UInt8} {bad' : Int → Bool} (h : Two w0 w B L b bad X1 X2 V1 V2) (f : Fr (L.inD X1.gd) w w') (hP : P1 w0 w' B X1.gd L b' bad') : Two w0 w' B L b' bad' X1 X2 V1 V2 := ⟨hP, h.gd, h.a1.drv h.p f, h.a2.drv h.p f, h.sep⟩
theorem readG_s {i : Int} {K : Sl → Int → World → Prop} (h : Two w0 w B L b bad X1 X2 V1 V2) (hx : XOk X1) (ht : Tabs9 w0) (hv : VOk X1.q (knP V1.kn)) (hi : S.I64 i)
    (hK : ∀ (v : Sl) w' V1', Two w0 w' B L b bad X1 X2 V1' V2 → V1'.pure = (vread (X1.F b bad) X1.q V1.pure i).2.2 → Kp w' B X1 X2 V1' V2 v (vread (X1.F b bad) X1.q V1.pure i).1 → (∀ {u bs}, Kp w B X1 X2 V1 V2 u bs → Kp w' B X1 X2 V1' V2 u bs) → K v (vread (X1.F b bad) X1.q V1.pure i).2.1 w') :
    callS Tryd.prog 11 #[.pointer (some (at_ X1.gr 0)), .int .i64 i] [.one .slc, .one (.int .i64)] K w := by
  refine vRead_s h.a1 h.p hx ht hv hi fun v w' V' f P h' hp hn o hvs => ?_
  have h2 := h.a2.other (V := V1) (X := X1) h.p f h.sep
  have hB : B ≤ w.heap.size := by have := h.a1.lo X1.gr (.inl rfl); omega
  refine hK v w' V' ⟨P, h.gd, h', h2, sep_step h.a2 h.sep hn⟩ hp ⟨o.rd, fun k hk => ?_⟩ fun {u bs} hu => ⟨hu.rd.fr f fun a ha hc => ?_, fun k hk => ?_⟩
  · have q := o.inB hk
    exact ⟨hvs k hk, fun hc => by have := (h.a2.in hc).2; omega, by omega, q.2⟩
  · obtain ⟨q1, q2, q3, q4⟩ := hu.sep _ ⟨a, ha, rfl⟩
    rcases hc with hc | hc
    · have := h.p.gdlt; omega
    · exact q1 (.inl hc)
  · obtain ⟨q1, q2, q3, q4⟩ := hu.sep k hk
    refine ⟨fun hc => ?_, q2, q3, Nat.lt_of_lt_of_le q4 f.size⟩
    rcases hn k hc with h1 | h1 | h1
    · exact q1 (.inl h1)
    · exact q1 (.inr h1)
    · omega
theorem Rdy.Fe (h : Rdy y X) (b : List UInt8) (bad : Int → Bool) : X.F b bad = S.vfetch y.x (S.vOff y.data.2.length : Nat) b bad := by
  unfold VX.F
  rw [h.xe, h.oe]
set_option maxHeartbeats 2000000 in
theorem VerityModes_s {i off x : Int} {K : Bool → World → Prop} {w : World} (hy : y.Ok w) (hi : -9223372036854775808 ≤ i ∧ i ≤ 9223372036854775807) (hoff : -9223372036854775808 ≤ off ∧ off ≤ 9223372036854775807) (hxx : -9223372036854775808 ≤ x ∧ x ≤ 9223372036854775807) (ht1 : Tabs w) (ht2 : Go.Proofs.YteopoodhclljjaaDoor.L.Tabs w) (hK : ∀ w', Ext w w' → K true w') :
    callS Tryd.prog 6 #[.agg y.cells.toArray, .int .i64 i, .int .i64 off, .int .i64 x] [.one .bool] K w := by
  refine f6_ok (p0_0 := y.alg) (p0_1 := y.blk) (p0_2 := y.mode) (p0_3 := y.salt.1) (p0_4 := y.data.1) ?_
  unfold f6
  have ht : Tabs9 w := ⟨ht1, ht2⟩
  have hsl := Bts.len hy.salt
  have hdl := Bts.len hy.data
  refine box_i fun g w1 e1 hg v1 => ?_
  have v1 : Var w1 g y.cells := v1
  refine anchor17_s (ht.ext e1) fun w2 e2 => ?_
  refine cond_i (fun h => by cases h) (fun _ => ?_)
  have E2 := e1.trans e2
  have v2 := v1.ext e2
  refine ldSV_i v2 ?_
  refine seedSmallV_s hsl hdl fun w3 e3 => ?_
  have E3 := E2.trans e3
  have v3 := v2.ext e3
  refine cond_i (fun _ => hK w3 E3) (fun h => ?_)
  simp only [Bool.or_eq_false_iff, Bool.not_eq_false', decide_eq_false_iff_not] at h
  obtain ⟨⟨⟨hsm, hoff0⟩, hx1⟩, hx255⟩ := h
  obtain ⟨hs64, hd1500, hb4096⟩ := small_of hsm
  have ht3 := ht.ext E3
  refine seed_i (R := fun x26 r14 x27 w => _) v3 (hy.ext E3) ht3 (Fr.refl _ w3) hd1500 (fun _ g2 w4 e4 => ?_) fun ha gd L r g2 B w4 e4 hin hP hB1 hB2 hr hg2 vd => ?_
  · refine joinOr (x := false) (fun w5 e5 => ?_) fun J hJ h => by simp at h
    refine joinOr (x := false) (fun w6 e6 => ?_) fun J hJ h => by simp at h
    refine joinOr (x := false) (fun w7 e7 => ?_) fun J hJ h => by simp at h
    exact cond_i (fun _ => hK w7 ((((E3.trans e4).trans e5).trans e6).trans e7)) (fun h => by simp at h)
  have o := SV.xok ha
  have hb1 := o.b1
  have hb2 := o.b2
  have hbb : y.blk = (y.x.bN : Int) := o.b
  have hsN : y.x.sN = y.data.2.length := rfl
  have hc0e : y.x.c 0 = (y.data.2.length + y.x.bN - 1) / y.x.bN := rfl
  obtain ⟨offN, rfl⟩ : ∃ n : Nat, off = n := ⟨off.toNat, by omega⟩
  have v4 := v3.ext e4
  refine joinOr (x := decide (i ≥ (y.x.c 0 : Int))) (fun w5 e5 => ?_) fun J hJ _ => ?_
  rotate_left
  · refine ld1_i (l := .slc) (o := 4) y.data.1 v4 rfl ?_
    refine ld1_i (l := .int .i64) (o := 1) y.blk v4 rfl ?_
    refine ld1_i (l := .int .i64) (o := 1) y.blk v4 rfl ?_
    refine quo_i (by omega) ?_
    have hq : IntKind.wrap .i64 (Int.tdiv (IntKind.wrap .i64 ((IntKind.wrap .i64 ((y.data.1.len : Int) + y.blk)) - 1)) y.blk) = (y.x.c 0 : Int) := by
      rw [hdl, hbb, ← Int.natCast_add, wrap_nat (by omega), show ((y.data.2.length + y.x.bN : Nat) : Int) - 1 = ((y.data.2.length + y.x.bN - 1 : Nat) : Int) by omega, wrap_nat (by omega), S.tdiv_n, hc0e]
      exact wrap_nat (by have := S.Shp.c_max o 0; omega)
    rw [hq]
    exact hJ _ (Fr.refl _ _)
  refine joinOr (x := decide ((offN : Int) ≥ (y.data.2.length : Int))) (fun w6 e6 => ?_) fun J hJ _ => ?_
  rotate_left
  · refine ld1_i (l := .slc) (o := 4) y.data.1 (v4.ext e5) rfl ?_
    rw [hdl]
    exact hJ _ (Fr.refl _ _)
  refine joinOr (x := (((offN / y.x.bN : Nat) : Int) != i)) (fun w7 e7 => ?_) fun J hJ _ => ?_
  rotate_left
  · refine ld1_i (l := .int .i64) (o := 1) y.blk ((v4.ext e5).ext e6) rfl ?_
    refine quo_i (by omega) ?_
    have hq : IntKind.wrap .i64 (Int.tdiv (offN : Int) y.blk) = ((offN / y.x.bN : Nat) : Int) := by
      rw [hbb, S.tdiv_n]
      have := Nat.div_le_self offN y.x.bN
      exact wrap_nat (by omega)
    rw [hq]
    exact hJ _ (Fr.refl _ _)
  have e47 := (e5.trans e6).trans e7
  have E7 := (E3.trans e4).trans e47
  refine cond_i (fun _ => hK w7 E7) (fun h => ?_)
  simp only [Bool.or_eq_false_iff, decide_eq_false_iff_not, bne_eq_false_iff_eq] at h
  obtain ⟨⟨⟨⟨_, hi0⟩, hic⟩, hod⟩, hdiv⟩ := h
  subst hdiv
  have hol : offN < y.data.2.length := by omega
  obtain ⟨hnc, _, _⟩ := S.blk_off (data := y.data.2) o hsN.symm hol
  generalize hn : offN / y.x.bN = n at hnc
  refine ldD_i (vd.ext e47) ?_
  have hyw := (hy.ext E3).ext (e4.trans e47)
  refine vOpen_s (gd := gd) (d := y.d r) (mode := 0) (nm := ByteArray.mk #[112]) rfl (SV.dOk hyw ha hd1500 (hr.ext e47)) (SV.dSm ha hd1500 r) (fun h => by rw [SV.openOk ha hd1500] at h; simp at h) fun _ gr m d' w8 e8 h8 hd' => ?_
  refine ldD_i ((vd.ext e47).ext e8) ?_
  refine vOpen_s (gd := gd) (d := y.d r) (mode := 1) (nm := ByteArray.mk #[112]) rfl (SV.dOk (hyw.ext e8) ha hd1500 ((hr.ext e47).ext e8)) (SV.dSm ha hd1500 r) (fun h => by rw [SV.openOk ha hd1500] at h; simp at h) fun _ gr2 m2 d2 w9 e9 h9 hd2 => ?_
  refine cond_i (fun h => by cases h) (fun _ => ?_)
  have e49 := (e47.trans e8).trans e9
  obtain ⟨X1, hX1⟩ : ∃ X : VX, X = ⟨gr, gd, d', 0⟩ := ⟨_, rfl⟩
  obtain ⟨X2, hX2⟩ : ∃ X : VX, X = ⟨gr2, gd, d2, 1⟩ := ⟨_, rfl⟩
  have s47 := e47.size
  have s8 := e8.size
  have T9 : Two w3 w9 B L y.part (fun _ => false) X1 X2 (VM.fresh m) (VM.fresh m2) := by
    subst hX1; subst hX2
    refine ⟨hP.ext e49, rfl, (h8.base (by omega)).ext e9, h9.base (by omega), fun k hk hc => ?_⟩
    have q1 := (h9.in hk).1
    have q2 := (h8.in hc).2
    omega
  have R1 : Rdy y X1 := by rw [hX1]; exact hd'
  have R2 : Rdy y X2 := by rw [hX2]; exact hd2
  have m1 : X1.mode = 0 := by rw [hX1]
  have m2' : X2.mode = 1 := by rw [hX2]
  have hgd1 : X1.gd = gd := by rw [hX1]
  have x1 := R1.ok ha hd1500
  have x2 := R2.ok ha hd1500
  have q1x : X1.q.x = y.x := by rw [R1.qe]
  have q2x : X2.q.x = y.x := by rw [R2.qe]
  have q1H : S.dg X1.q.a X1.q.salt = y.H := by rw [R1.qe]; rfl
  have q2H : S.dg X2.q.a X2.q.salt = y.H := by rw [R2.qe]; rfl
  have q1m : X1.q.mode = 0 := m1
  have q2m : X2.q.mode = 1 := m2'
  rw [show gr = X1.gr by rw [hX1], show gr2 = X2.gr by rw [hX2], ← hgd1]
  have hI : S.I64 ((n : Nat) : Int) := ⟨by omega, by have := S.Shp.c_max o 0; omega⟩
  have hdv : IntKind.wrap .i64 (Int.tdiv (offN : Int) 64) = ((offN / 64 : Nat) : Int) := by rw [show (64 : Int) = ((64 : Nat) : Int) from rfl, S.tdiv_n]; exact wrap_nat (by omega)
  rw [hdv]
  have hz := S.vSize_ge y.data.2.length y.T.length
  have hov := S.vOff_ge y.data.2.length
  have hplen : y.part.length = S.vSize y.data.2.length y.T.length := S.vPart_len _ _
  have hon : badOn y.part ((offN / 64 : Nat) : Int) = true := by
    unfold badOn
    rw [decide_eq_false (show ¬ (((offN / 64 : Nat) : Int) < 0 ∨ ((offN / 64 : Nat) : Int) ≥ (y.part.length : Int) / 64) by rw [hplen]; omega)]; rfl
  have hs64 : S.I64 ((offN / 64 : Nat) : Int) := ⟨by omega, by omega⟩
  -- the sector is bad
  refine pBad_s (on := true) T9.p rfl hs64 fun w10 f10 P10 => ?_
  rw [if_pos hon] at P10
  have T10 := T9.drv f10 P10
  have hF1 : X1.F y.part (fun k => if k = ((offN / 64 : Nat) : Int) then true else false) (n, 0) = ([], 41) := by rw [R1.Fe, ← hn]; exact S.vfetch_bad o hsN.symm hol (by simp)
  have hF2 : X2.F y.part (fun k => if k = ((offN / 64 : Nat) : Int) then true else false) (n, 0) = ([], 41) := by rw [R2.Fe, ← hn]; exact S.vfetch_bad o hsN.symm hol (by simp)
  have hr1 := vread_err0 (F := X1.F y.part fun k => if k = ((offN / 64 : Nat) : Int) then true else false) x1.q (R := (VM.fresh m).pure) (VOk.nil _) rfl (by rw [q1x]; exact hnc) (e := 41) (by decide) (by rw [hF1])
  have hr2 := vread_err0 (F := X2.F y.part fun k => if k = ((offN / 64 : Nat) : Int) then true else false) x2.q (R := (VM.fresh m2).pure) (VOk.nil _) rfl (by rw [q2x]; exact hnc) (e := 41) (by decide) (by rw [hF2])
  refine readG_s T10 x1 ht3 (VOk.nil _) hI fun va w11 Va T11 pa _ _ => ?_
  rw [hr1] at pa ⊢
  refine readG_s T11.swap x2 ht3 (VOk.nil _) hI fun vb w12 Vb T12 pb _ _ => ?_
  rw [hr2] at pb ⊢
  have T12 := T12.swap
  refine pBad_s (on := false) T12.p rfl hs64 fun w13 f13 P13 => ?_
  rw [if_pos hon] at P13
  have hbf : (fun k => if k = ((offN / 64 : Nat) : Int) then false else (fun k => if k = ((offN / 64 : Nat) : Int) then true else false) k) = fun _ => false := by
    funext k
    by_cases hk : k = ((offN / 64 : Nat) : Int) <;> simp [hk]
  rw [hbf] at P13
  have T13 := T12.drv f13 P13
  have ba : Va.broken = false := congrArg Vr.broken pa
  have bb : Vb.broken = false := congrArg Vr.broken pb
  have ka : knP Va.kn = [] := congrArg Vr.known pa
  have kb : knP Vb.kn = [] := congrArg Vr.known pb
  refine joinOr (x := false) (fun w14 e14 => ?_) fun J hJ _ => vBroken_s T13.a1 (by rw [ba]; exact hJ _ (Fr.refl _ _))
  have T14 := T13.ext e14
  refine joinOr (x := false) (fun w15 e15 => ?_) fun J hJ _ => vBroken_s T14.a2 (by rw [bb]; exact hJ _ (Fr.refl _ _))
  have T15 := T14.ext e15
  refine cond_i (fun h => by simp at h) (fun _ => ?_)
  -- the good block
  have oka : VOk X1.q (knP Va.kn) := by rw [ka]; exact VOk.nil _
  have fa : VFair X1.q y.data.2 (knP Va.kn) := by rw [ka]; exact fun e he => by cases he
  have okb : VOk X2.q (knP Vb.kn) := by rw [kb]; exact VOk.nil _
  have fb : VFair X2.q y.data.2 (knP Vb.kn) := by rw [kb]; exact fun e he => by cases he
  obtain ⟨g1, g2, _, g4⟩ := vread_fair x1.q (R1.fair ha) R1.root (R := Va.pure) oka fa ba (n : Int)
  obtain ⟨g41, g42, _, _⟩ := g4 n rfl (by rw [q1x]; exact hnc)
  obtain ⟨g5, _, _⟩ := vread_ok x1.q (fun p h1 h2 h3 => VX.F_len x1 p h1 h2 h3) (F := X1.F y.part fun _ => false) (R := Va.pure) oka (n : Int)
  rw [q1x, q1H] at g41
  refine readG_s T15 x1 ht3 oka hI fun vg w16 Vc T16 pc kg _ => ?_
  rw [g41] at kg
  generalize hRc : vread (X1.F y.part fun _ => false) X1.q Va.pure (n : Int) = Rc at pc g1 g2 g5 g42
  have okc : VOk X1.q (knP Vc.kn) := by rw [show knP Vc.kn = Rc.2.2.known from congrArg Vr.known pc]; exact g5
  have fc : VFair X1.q y.data.2 (knP Vc.kn) := by rw [show knP Vc.kn = Rc.2.2.known from congrArg Vr.known pc]; exact g1
  have bc : Vc.broken = false := by rw [show Vc.broken = Rc.2.2.broken from congrArg Vr.broken pc]; exact g2
  -- a byte is turned
  have hu8 : IntKind.wrap .u8 x = ((u8 x).toNat : Int) := wrap_u8_b x
  have hu0 : u8 x ≠ 0 := by
    intro h0
    have := u8_toNat (x := x) (by omega) (by omega)
    rw [h0] at this
    have h1 : ((0 : UInt8).toNat : Int) = 0 := rfl
    omega
  rw [hu8]
  refine buildB_i [u8 x] rfl rfl (by decide) fun vt w17 e17 o17 => ?_
  have T17 := T16.ext e17
  have kg17 := kg.ext e17
  have hwin : S.within (offN : Int) ([u8 x].length : Int) (y.part.length : Int) = true := S.within_iff.2 ⟨by omega, by simp, by omega, by omega, by simp; omega⟩
  refine pTurn_s T17.p rfl ⟨by omega, by omega⟩ o17.rd (by simp) (fun _ a ha hc => by
    have := (o17.lt ha).1
    have := T16.p.in hc
    omega) fun w18 f18 P18 => ?_
  rw [if_pos hwin, Int.toNat_natCast] at P18
  have T18 := T17.drv f18 P18
  have kg18 := kg17.drv T17.p f18
  obtain ⟨z, hz1, hz2, hz3⟩ := S.vfetch_turn (data := y.data.2) (H := y.H) o (SV.len ha) hsN.symm hol hu0
  rw [hn] at hz1 hz3
  have hFt1 : ∀ p : Pl, p.2 ≤ X1.q.x.h → p.1 < X1.q.x.c p.2 → X1.F (S.xorAt y.part [u8 x] offN) (fun _ => false) p = (if p = (n, 0) then z else X1.q.x.blk (S.dg X1.q.a X1.q.salt) y.data.2 p.2 p.1, 0) := by
    rw [q1x, q1H, R1.Fe]; exact hz3
  have hFt2 : ∀ p : Pl, p.2 ≤ X2.q.x.h → p.1 < X2.q.x.c p.2 → X2.F (S.xorAt y.part [u8 x] offN) (fun _ => false) p = (if p = (n, 0) then z else X2.q.x.blk (S.dg X2.q.a X2.q.salt) y.data.2 p.2 p.1, 0) := by
    rw [q2x, q2H, R2.Fe]; exact hz3
  obtain ⟨t1, t2⟩ := vread_turn x1.q R1.root (R := Vc.pure) okc fc bc (by rw [q1x]; exact hnc) hFt1
  obtain ⟨t3, t4⟩ := vread_turn x2.q R2.root (R := Vb.pure) okb fb bb (by rw [q2x]; exact hnc) hFt2
  obtain ⟨t5, _, _⟩ := vread_ok x1.q (fun p h1 h2 h3 => VX.F_len x1 p h1 h2 h3) (F := X1.F (S.xorAt y.part [u8 x] offN) fun _ => false) (R := Vc.pure) okc (n : Int)
  obtain ⟨t6, _, _⟩ := vread_ok x2.q (fun p h1 h2 h3 => VX.F_len x2 p h1 h2 h3) (F := X2.F (S.xorAt y.part [u8 x] offN) fun _ => false) (R := Vb.pure) okb (n : Int)
  rw [q1x, q1H] at t1 t2
  rw [q2x, q2H] at t3 t4
  refine readG_s T18 x1 ht3 okc hI fun v5 w19 Vd T19 pd k5 keep19 => ?_
  have kg19 := keep19 kg18
  refine readG_s T19.swap x2 ht3 okb hI fun v6 w20 Ve T20 pe k6 keep20 => ?_
  have kg20 := (keep20 kg19.swap).swap
  have k5 := (keep20 k5.swap).swap
  have k6 := k6.swap
  have T20 := T20.swap
  have okd : VOk X1.q (knP Vd.kn) := by rw [show knP Vd.kn = _ from congrArg Vr.known pd]; exact t5
  have oke : VOk X2.q (knP Ve.kn) := by rw [show knP Ve.kn = _ from congrArg Vr.known pe]; exact t6
  -- and turned back
  refine buildB_i [u8 x] rfl rfl (by decide) fun vt2 w21 e21 o21 => ?_
  have T21 := T20.ext e21
  have hwin2 : S.within (offN : Int) ([u8 x].length : Int) ((S.xorAt y.part [u8 x] offN).length : Int) = true := by rw [S.xorAt_length]; exact hwin
  refine pTurn_s T21.p rfl ⟨by omega, by omega⟩ o21.rd (by simp) (fun _ a ha hc => by
    have := (o21.lt ha).1
    have := T20.p.in hc
    omega) fun w22 f22 P22 => ?_
  rw [if_pos hwin2, Int.toNat_natCast, S.xorAt_xorAt] at P22
  have T22 := T21.drv f22 P22
  have kg22 := (kg20.ext e21).drv T21.p f22
  have k5 := (k5.ext e21).drv T21.p f22
  have k6 := (k6.ext e21).drv T21.p f22
  refine readG_s T22 x1 ht3 okd hI fun v7 w23 Vf T23 pf k7 keep23 => ?_
  have kg23 := keep23 kg22
  have k5 := keep23 k5
  have k6 := keep23 k6
  refine readG_s T23.swap x2 ht3 oke hI fun v8 w24 Vg T24 pg k8 keep24 => ?_
  have kg24 := (keep24 kg23.swap).swap
  have k5 := (keep24 k5.swap).swap
  have k6 := (keep24 k6.swap).swap
  have k7 := (keep24 k7.swap).swap
  have T24 := T24.swap
  have fin : ∀ w', Ext w24 w' → K true w' := fun w' e => hK w' (E3.trans (T24.p.ext e).e0)
  by_cases hcol : y.H z = y.H (y.x.blk y.H y.data.2 0 n)
  · obtain ⟨u1, u2⟩ := t1 hcol
    obtain ⟨u3, u4⟩ := t3 hcol
    rw [u2] at k5
    rw [u1, u3]
    refine cond_i (fun _ => ?_) (fun h => by simp at h)
    refine b2s_i k5.rd (b2s_i kg24.rd ?_)
    rw [str_toList, str_toList]
    have hne : (z == y.x.blk y.H y.data.2 0 n) = false := by simpa using hz1
    rw [hne]
    refine joinOr (x := false) (fun w25 e25 => fin w25 e25) fun J hJ h => by cases h
  · have u1 := t2 hcol
    have u2 := t4 hcol
    rw [u1] at pd k5
    rw [u2] at pe k6
    rw [u1, u2]
    have bd : Vd.broken = false := by rw [show Vd.broken = (X1.q.mode == 1) from congrArg Vr.broken pd, q1m]; rfl
    have be : Ve.broken = true := by rw [show Ve.broken = (X2.q.mode == 1) from congrArg Vr.broken pe, q2m]; rfl
    have fd : VFair X1.q y.data.2 (knP Vd.kn) := by rw [show knP Vd.kn = knP Vc.kn from congrArg Vr.known pd]; exact fc
    obtain ⟨_, g2, _, g4⟩ := vread_fair x1.q (R1.fair ha) R1.root (R := Vd.pure) okd fd bd (n : Int)
    obtain ⟨g41, g42, _, _⟩ := g4 n rfl (by rw [q1x]; exact hnc)
    rw [q1x, q1H] at g41
    rw [g41] at k7
    rw [g42]
    have bf : Vf.broken = false := by rw [show Vf.broken = _ from congrArg Vr.broken pf]; exact g2
    have hbrk : vread (X2.F y.part fun _ => false) X2.q Ve.pure (n : Int) = ([], 58, ⟨true, Ve.pure.known, []⟩) := by
      unfold vread
      rw [if_pos (show Ve.pure.broken = true from be)]
    rw [hbrk] at pg ⊢
    have bg : Vg.broken = true := congrArg Vr.broken pg
    have l5 := Bts.len k5.rd
    have l6 := Bts.len k6.rd
    refine cond_i (fun h => by simp at h) (fun _ => ?_)
    rw [l5, l6]
    refine joinAnd (x := true) (fun w25 e25 => ?_) fun J hJ _ => ?_
    rotate_left
    · refine b2s_i k7.rd (b2s_i kg24.rd ?_)
      rw [str_toList, beq_self_eq_true]
      exact hJ _ (Fr.refl _ _)
    have T25 := T24.ext e25
    refine joinAnd (x := true) (fun w26 e26 => ?_) fun J hJ _ => vBroken_s T25.a2 (by rw [bg]; exact hJ _ (Fr.refl _ _))
    have T26 := T25.ext e26
    refine joinAnd (x := true) (fun w27 e27 => ?_) fun J hJ _ => vBroken_s T26.a1 (by rw [bf]; exact hJ _ (Fr.refl _ _))
    exact fin w27 ((e25.trans e26).trans e27)
end
end Go.Proofs.YteopoodhclljjaaDoor
