/- Layer 10 (drive): Read and Write. -/
import Derived.Test.YtjphpadgbhegaaaDrv10a
set_option linter.unusedSimpArgs false
set_option linter.unusedVariables false
namespace Go.S
open Go Go.Eng
theorem over_get {old bs : List UInt8} {off : Nat} {p : Nat → Bool} {i : Nat} (h : i < old.length) : (over old bs off p)[i]? = some (if off ≤ i ∧ i < off + bs.length ∧ p (i / 64 - off / 64) then bs.getD (i - off) 0 else old.getD i 0) := by
  simp [over, h]
/-- All of it. -/
theorem over_all {old bs : List UInt8} {off : Nat} (h : off + bs.length ≤ old.length) : over old bs off (fun _ => true) = old.take off ++ bs ++ old.drop (off + bs.length) := by
  apply List.ext_getElem?
  intro i
  by_cases hi : i < old.length
  · rw [over_get hi]
    by_cases h1 : i < off
    · rw [if_neg (by omega), List.append_assoc, List.getElem?_append_left (by simp; omega), List.getElem?_take, if_pos h1]
      simp [hi]
    · by_cases h2 : i < off + bs.length
      · rw [if_pos ⟨by omega, h2, rfl⟩, List.append_assoc, List.getElem?_append_right (by simp; omega), List.getElem?_append_left (by simp; omega)]
        have : i - (old.take off).length = i - off := by simp; omega
        rw [this]
        simp [show i - off < bs.length by omega]
      · rw [if_neg (by omega), List.getElem?_append_right (by simp; omega), List.getElem?_drop]
        have : off + bs.length + (i - (old.take off ++ bs).length) = i := by simp; omega
        rw [this]
        simp [hi]
  · rw [List.getElem?_eq_none (by rw [over_length]; omega), List.getElem?_eq_none (by simp; omega)]
/-- One sector more. -/
theorem over_step {old bs : List UInt8} {off k a b : Nat} {p : Nat → Bool} (h : off + bs.length ≤ old.length) (ha : a = max off ((off / 64 + k) * 64)) (hb : b = min (off + bs.length) ((off / 64 + k + 1) * 64)) (hab : a ≤ b) (hk : p k = true) :
    over old bs off (fun j => decide (j < k + 1) && p j) = (over old bs off (fun j => decide (j < k) && p j)).take a ++ (bs.drop (a - off)).take (b - a) ++ (over old bs off (fun j => decide (j < k) && p j)).drop (a + min (bs.drop (a - off)).length (b - a)) := by
  have hl := over_length old bs off (fun j => decide (j < k) && p j)
  have hm : min (bs.drop (a - off)).length (b - a) = b - a := by simp; omega
  rw [hm]
  apply List.ext_getElem?
  intro i
  by_cases hi : i < old.length
  · rw [over_get hi]
    by_cases h1 : i < a
    · rw [List.append_assoc, List.getElem?_append_left (by simp [hl]; omega), List.getElem?_take, if_pos h1, over_get hi]
      congr 2
      have : i / 64 - off / 64 ≠ k ∨ ¬ (off ≤ i) := by omega
      simp only [Bool.and_eq_true, decide_eq_true_eq, eq_iff_iff]
      constructor
      · rintro ⟨q1, q2, q3, q4⟩; exact ⟨q1, q2, by omega, q4⟩
      · rintro ⟨q1, q2, q3, q4⟩; exact ⟨q1, q2, by omega, q4⟩
    · by_cases h2 : i < b
      · have hik : i / 64 - off / 64 = k := by omega
        rw [if_pos ⟨by omega, by omega, by rw [hik]; simp [hk]⟩, List.append_assoc, List.getElem?_append_right (by simp [hl]; omega), List.getElem?_append_left (by simp [hl]; omega)]
        have : i - ((over old bs off (fun j => decide (j < k) && p j)).take a).length = i - a := by simp [hl]; omega
        rw [this, List.getElem?_take, if_pos (by omega), List.getElem?_drop, show a - off + (i - a) = i - off by omega]
        simp [show i - off < bs.length by omega]
      · have hlen2 : ((over old bs off (fun j => decide (j < k) && p j)).take a ++ (bs.drop (a - off)).take (b - a)).length = b := by simp [hl]; omega
        rw [List.getElem?_append_right (by omega), hlen2, List.getElem?_drop, show a + (b - a) + (i - b) = i by omega, over_get hi]
        congr 2
        have : i / 64 - off / 64 ≠ k ∨ ¬ (i < off + bs.length) := by omega
        simp only [Bool.and_eq_true, decide_eq_true_eq, eq_iff_iff]
        constructor
        · rintro ⟨q1, q2, q3, q4⟩; exact ⟨q1, q2, by omega, q4⟩
        · rintro ⟨q1, q2, q3, q4⟩; exact ⟨q1, q2, by omega, q4⟩
  · rw [List.getElem?_eq_none (by rw [over_length]; omega), List.getElem?_eq_none (by simp [hl]; omega)]
theorem over_skip {old bs : List UInt8} {off k : Nat} {p : Nat → Bool} (hk : p k = false) : over old bs off (fun j => decide (j < k + 1) && p j) = over old bs off (fun j => decide (j < k) && p j) := by
  congr 1
  funext j
  by_cases h : j = k
  · subst h; simp [hk]
  · congr 1; simp; omega
theorem over_none {old bs : List UInt8} {off : Nat} {p : Nat → Bool} : over old bs off (fun j => decide (j < 0) && p j) = old := by
  apply List.ext_getElem?
  intro i
  by_cases hi : i < old.length
  · rw [over_get hi]; simp [hi]
  · rw [List.getElem?_eq_none (by rw [over_length]; omega), List.getElem?_eq_none (by omega)]
theorem over_congr {old bs : List UInt8} {off : Nat} {p q : Nat → Bool} (h : ∀ i, off ≤ i → i < off + bs.length → p (i / 64 - off / 64) = q (i / 64 - off / 64)) : over old bs off p = over old bs off q := by
  unfold over
  apply List.map_congr_left
  intro i _
  congr 1
  simp only [eq_iff_iff]
  constructor
  · rintro ⟨q1, q2, q3⟩; exact ⟨q1, q2, by rw [← h i q1 q2]; exact q3⟩
  · rintro ⟨q1, q2, q3⟩; exact ⟨q1, q2, by rw [h i q1 q2]; exact q3⟩
theorem Drv.set_set (D : Drv) (i : Nat) (a b : Area) : (D.set i a).set i b = D.set i b := by simp [Drv.set]
theorem Drv.ar_set {D : Drv} {i : Nat} (h : i < D.as.length) (a : Area) : (D.set i a).ar i = a := by simp [Drv.set, Drv.ar, h]
theorem Drv.set_self {D : Drv} {i : Nat} (h : i < D.as.length) : D.set i (D.ar i) = D := by
  unfold Drv.set Drv.ar
  have : D.as.set i (D.as.getD i default) = D.as := by
    apply List.ext_getElem?
    intro j
    rw [List.getElem?_set]
    split
    · rename_i hij; subst hij; simp [h]
    · rfl
  rw [this]
theorem Drv.err_ok {D : Drv} {name : List UInt8} {off len : Int} (h : D.err name off len = 0) : D.down = false ∧ ∃ i, D.at? name = some i ∧ within off len (D.ar i).b.length = true := by
  unfold Drv.err at h
  cases hd : D.down with
  | true => rw [hd] at h; cases h
  | false =>
    rw [hd] at h
    refine ⟨rfl, ?_⟩
    cases hi : D.at? name with
    | none => rw [hi] at h; cases h
    | some i =>
      rw [hi] at h
      refine ⟨i, rfl, ?_⟩
      cases hw : within off len (D.ar i).b.length with
      | true => rfl
      | false => simp [hw] at h
end Go.S
namespace Go.Proofs.Ytjphpadgbhegaaa
open Go Go.Eng
section
variable {w : World} {gd : Nat} {L : Lay} {D : S.Drv}
theorem AreaAt.setB {w' : World} {a : AL} {A : S.Area} {b' : List UInt8} (h : AreaAt w a A) (f : Fr (fun k => k = a.bb) w w') (v : Var w' a.bb (b'.map vB)) (hl : b'.length = A.b.length) : AreaAt w' a (A.setB b') :=
  ⟨by have := h.var.fr f h.ne.1; rw [S.Area.setB_b, hl]; exact this, v, h.bad.fr f (fun e => h.ne.2.2 e.symm), h.ne, by rw [S.Area.setB_b, hl]; exact h.len⟩
theorem bSl_cut {bb n lo hi : Nat} (h : lo < n) : (bSl bb n).cut 1 lo hi = ⟨some (at_ bb lo), hi - lo, n - lo⟩ := by
  unfold Sl.cut bSl
  simp only [if_neg (show ¬ n = lo by omega), Option.map_some, Nat.mul_one, at_add, Nat.zero_add]
theorem Bts.cutAll {s : Sl} {bs : List UInt8} (h : Bts w s bs) {l : Nat} (hl : l ≤ bs.length) : Bts w (s.cut 1 l s.len) (bs.drop l) := by
  have := Bts.cut h (l := l) (hi := s.len) (by have := Bts.len h; omega) (by have := Bts.len h; omega)
  rwa [List.take_of_length_le (by have := Bts.len h; simp; omega)] at this
theorem dRead_s {name : ByteArray} {off len : Int} {K : Sl → Int → World → Prop} (h : DriveAt w gd L D) (ho : S.I64 off) (hl : S.I64 len)
    (hK : ∀ v w', Fr (fun k => k = gd) w w' → DriveAt w' gd L (D.read name.toList off len).2.2 → OwnB w' w.heap.size v (D.read name.toList off len).1 → K v (D.read name.toList off len).2.1 w') :
    callS Try.prog 11 #[.pointer (some (at_ gd 0)), .string name, .int .i64 off, .int .i64 len] [.one .slc, .one (.int .i64)] K w := by
  refine f11_ok ?_
  unfold f11
  refine dFind_s h ho hl ?_
  unfold S.Drv.read at hK
  by_cases he : D.err name.toList off len = 0
  · obtain ⟨hd, i, hi, hw⟩ := S.Drv.err_ok he
    rw [he, if_pos rfl, hi]
    rw [if_neg (by simp [he]), hi] at hK
    simp only [Option.getD_some, Option.map_some] at hK ⊢
    have hA := area_at h hi
    have hil := S.Drv.at?_lt hi
    have hal := hA.len
    obtain ⟨q1, q2, q3, q4, q5⟩ := S.within_iff.1 hw
    refine cond_i (fun h => by cases h) (fun _ => ?_)
    refine dSectors_s q1 q2 (by omega) ?_
    have hn : S.nS off len ≤ 20000 := by unfold S.nS; split <;> omega
    have hn0 : 0 ≤ S.nS off len := by unfold S.nS; split <;> omega
    refine loop_i (fun (x : Int) w' => w' = w ∧ ∃ k : Nat, (k : Int) ≤ S.nS off len ∧ x = k ∧ ∀ j, j < k → (D.ar i).bad (off / 64 + (j : Int)) = false) (fun x _ => (S.nS off len - x).toNat) ⟨rfl, 0, by omega, rfl, fun j hj => by omega⟩ ?_
    rintro x w1 again ⟨rfl, k, hk, rfl, hb⟩ hag
    refine cond_i (fun hlt => ?_) (fun hge => ?_)
    · have hlt' : (k : Int) < S.nS off len := by simpa using hlt
      refine nil_i rfl ?_
      refine ld1_i (l := .mp) (o := 1) (some (L.al.getD i default).mb) hA.var rfl ?_
      rw [wrap_i64 (x := off / 64 + (k : Int)) (by omega) (by omega)]
      refine look_i (lf := .bool) ((D.ar i).bad (off / 64 + (k : Int))) hA.bad rfl (by cases (D.ar i).bad (off / 64 + (k : Int)) <;> rfl) ?_
      refine cond_i (fun hbad => ?_) (fun hgood => ?_)
      · have : (D.ar i).badIn off len = true := by
          unfold S.Area.badIn
          rw [List.any_eq_true]
          exact ⟨k, by simp; omega, hbad⟩
        rw [if_pos this] at hK
        exact hK Sl.nil _ (Fr.refl _ _) h (Own.nilSl _ _ _)
      · refine hag _ _ ⟨rfl, k + 1, by omega, by rw [wrap_i64 (by omega) (by omega)]; omega, fun j hj => ?_⟩ (by rw [wrap_i64 (by omega) (by omega)]; omega)
        by_cases hjk : j = k
        · subst hjk; exact hgood
        · exact hb j (by omega)
    · have hkn : (k : Int) = S.nS off len := by have : ¬ (k : Int) < S.nS off len := by simpa using hge
                                                omega
      have : (D.ar i).badIn off len = false := by
        unfold S.Area.badIn
        rw [Bool.eq_false_iff]
        intro hx
        obtain ⟨j, hj, hbj⟩ := List.any_eq_true.1 hx
        rw [hb j (by simp at hj; omega)] at hbj; cases hbj
      rw [if_neg (by rw [this]; exact Bool.false_ne_true)] at hK
      clear hag hge
      have hC := h.okC
      have hB := h.okB
      refine nil_i rfl ?_
      refine ld1_i (l := .int .i64) (o := 5) D.count h.var rfl ?_
      refine nil_i rfl ?_
      refine st1_i (o := 5) h.var (by simp [dCells]) rfl fun w2 f2 v2 => ?_
      refine nil_i rfl ?_
      refine ld1_i (l := .int .i64) (o := 6) D.bytes v2 rfl ?_
      refine nil_i rfl ?_
      refine st1_i (o := 6) v2 (by simp [dCells]) rfl fun w3 f3 v3 => ?_
      rw [wrap_i64 (x := D.count + 1) (by omega) (by omega), wrap_i64 (x := D.bytes + len) (by omega) (by omega)] at v3
      have f13 := f2.trans' f3
      have h3 := h.upVar (D' := { D with count := S.cap60 (D.count + 1), bytes := S.cap60 (D.bytes + len) }) f13 v3 rfl rfl h.okL (by simp only [S.cap60]; split <;> omega) (by simp only [S.cap60]; split <;> omega)
      have hA3 : AreaAt w3 (L.al.getD i default) (D.ar i) := h3.areas i hil
      refine nil_i rfl ?_
      refine ld1_i (l := .slc) (o := 0) (bSl (L.al.getD i default).bb (D.ar i).b.length) hA3.var rfl ?_
      rw [wrap_i64 (x := off + len) (by omega) (by omega)]
      refine sl2_i (by omega) (by omega) (by simp only; omega) ?_
      have hc := Bts.cut hA3.rd (l := off.toNat) (hi := (off + len).toNat) (by omega) (by omega)
      rw [show (off + len).toNat - off.toNat = len.toNat by omega] at hc
      refine clone_s hc (by simp; omega) fun v w4 e4 o4 => ?_
      exact hK v w4 (f13.then e4) (h3.ext e4) (o4.base f13.size)
  · rw [if_neg he]
    rw [if_pos he] at hK
    refine cond_i (fun _ => ?_) (fun h => by simp at h; exact absurd h he)
    exact hK Sl.nil w (Fr.refl _ _) h (Own.nilSl _ _ _)
/-- 'copy(a.b[lo:hi], x)' -/
theorem copyArea_i {w : World} {a : AL} {A : S.Area} {x : Sl} {ds : List UInt8} {lo hi : Nat} {K : Int → World → Prop} (hA : AreaAt w a A) (h1 : lo ≤ hi) (h2 : hi ≤ A.b.length) (hx : Bts w x ds)
    (hK : ∀ n w', Fr (fun k => k = a.bb) w w' → AreaAt w' a (A.setB (A.b.take lo ++ ds.take (hi - lo) ++ A.b.drop (lo + min ds.length (hi - lo)))) → K n w') :
    semS Try.prog (Builtin.copy_ #[22, 22] 2 #[.slice ((bSl a.bb A.b.length).cut 1 lo hi).a ((bSl a.bb A.b.length).cut 1 lo hi).len ((bSl a.bb A.b.length).cut 1 lo hi).cap, .slice x.a x.len x.cap]) (.one (.int .i64)) K w := by
  have hcl : ((bSl a.bb A.b.length).cut 1 lo hi).len = hi - lo := rfl
  refine copyV_i' (P := Try.prog) (t := 22) (ty := 2) (e := 5) (o := lo) (bb := a.bb) (cells := A.b.map vB) (dst := (bSl a.bb A.b.length).cut 1 lo hi) hA.row (fun hne => ?_) (by rw [hcl, List.length_map]; omega) hx bytes_one fun w' f v => hK _ w' f (hA.setB f ?_ ?_)
  · rw [hcl] at hne
    rw [bSl_cut (by omega)]
  · rw [List.map_append, List.map_append, List.map_take, List.map_drop, List.map_take]
    rw [hcl, List.length_map] at v
    exact v
  · simp only [List.length_append, List.length_take, List.length_drop]; omega
section
variable {i : Nat} {off : Int} {p : Sl} {bs : List UInt8}
theorem setB_len (A : S.Area) (b : List UInt8) : (A.setB b).b.length = b.length := rfl
/-- One sector of a write that is torn. -/
theorem torn_i {w : World} {k : Nat} {q : Nat → Bool} {K : World → Prop} (h1 : DriveAt w gd L (D.set i ((D.ar i).setB (S.over (D.ar i).b bs off.toNat (fun j => decide (j < k) && q j))))) (hil : i < D.as.length) (h0 : 0 ≤ off) (hfit : off.toNat + bs.length ≤ (D.ar i).b.length) (hal : (D.ar i).b.length ≤ 1048576) (hbn : 0 < bs.length) (hk : (off.toNat / 64 + k) * 64 < off.toNat + bs.length) (hq : q k = true) (hp : Bts w p bs)
    (hK : ∀ w', Fr (fun k => k = (L.al.getD i default).bb) w w' → DriveAt w' gd L (D.set i ((D.ar i).setB (S.over (D.ar i).b bs off.toNat (fun j => decide (j < k + 1) && q j)))) → K w') :
    (drawS w fun C w =>
            nilS (some (at_ (L.al.getD i default).g 0)) fun a22 =>
            semQ Try.prog C (Instr.loadAt 22 (.pointer (some (a22.add 0)))) (.one .slc) (fun x23 =>
            semQ Try.prog C (Instr.sliceAt 22 (.slice x23.a x23.len x23.cap) (some (.int .i64 (if (IntKind.wrap .i64 ((IntKind.wrap .i64 (off / 64 + k)) * 64)) > off then IntKind.wrap .i64 ((IntKind.wrap .i64 (off / 64 + k)) * 64) else off))) (some (.int .i64 (if (IntKind.wrap .i64 ((IntKind.wrap .i64 ((IntKind.wrap .i64 (off / 64 + k)) + 1)) * 64)) < (IntKind.wrap .i64 (off + (bs.length : Int))) then IntKind.wrap .i64 ((IntKind.wrap .i64 ((IntKind.wrap .i64 (off / 64 + k)) + 1)) * 64) else IntKind.wrap .i64 (off + (bs.length : Int))))) none) (.one .slc) (fun x24 =>
            semQ Try.prog C (Instr.sliceAt 22 (.slice p.a p.len p.cap) (some (.int .i64 (IntKind.wrap .i64 ((if (IntKind.wrap .i64 ((IntKind.wrap .i64 (off / 64 + k)) * 64)) > off then IntKind.wrap .i64 ((IntKind.wrap .i64 (off / 64 + k)) * 64) else off) - off)))) none none) (.one .slc) (fun x25 =>
            semS Try.prog (Builtin.copy_ #[22, 22] 2 #[(.slice x24.a x24.len x24.cap), (.slice x25.a x25.len x25.cap)]) (.one (.int .i64)) (fun r26 w => K w) w)))) := by
  have hil1 : i < (D.set i ((D.ar i).setB (S.over (D.ar i).b bs off.toNat (fun j => decide (j < k) && q j)))).as.length := by simpa [S.Drv.set] using hil
  have hA1 := h1.areas i hil1
  rw [S.Drv.ar_set hil] at hA1
  have hlen1 : (S.over (D.ar i).b bs off.toNat (fun j => decide (j < k) && q j)).length = (D.ar i).b.length := S.over_length _ _ _ _
  have hpl := Bts.len hp
  obtain ⟨fr, hfr⟩ : ∃ fr : Nat, fr = max off.toNat ((off.toNat / 64 + k) * 64) := ⟨_, rfl⟩
  obtain ⟨to, hto⟩ : ∃ to : Nat, to = min (off.toNat + bs.length) ((off.toNat / 64 + k + 1) * 64) := ⟨_, rfl⟩
  have hft : fr < to := by omega
  have e1 : (if IntKind.wrap .i64 (IntKind.wrap .i64 (off / 64 + (k : Int)) * 64) > off then IntKind.wrap .i64 (IntKind.wrap .i64 (off / 64 + (k : Int)) * 64) else off) = (fr : Int) := by
    rw [wrap_i64 (x := off / 64 + (k : Int)) (by omega) (by omega), wrap_i64 (x := (off / 64 + (k : Int)) * 64) (by omega) (by omega)]
    split <;> omega
  have e2 : (if IntKind.wrap .i64 (IntKind.wrap .i64 (IntKind.wrap .i64 (off / 64 + (k : Int)) + 1) * 64) < IntKind.wrap .i64 (off + (bs.length : Int)) then IntKind.wrap .i64 (IntKind.wrap .i64 (IntKind.wrap .i64 (off / 64 + (k : Int)) + 1) * 64) else IntKind.wrap .i64 (off + (bs.length : Int))) = (to : Int) := by
    rw [wrap_i64 (x := off / 64 + (k : Int)) (by omega) (by omega), wrap_i64 (x := off / 64 + (k : Int) + 1) (by omega) (by omega), wrap_i64 (x := (off / 64 + (k : Int) + 1) * 64) (by omega) (by omega), wrap_i64 (x := off + (bs.length : Int)) (by omega) (by omega)]
    split <;> omega
  have e3 : IntKind.wrap .i64 ((fr : Int) - off) = (fr : Int) - off := wrap_i64 (by omega) (by omega)
  rw [e1, e2, e3]
  refine ⟨fun x => Ext w x, Ext.drew _, ?_⟩
  refine nil_i rfl ?_
  refine ld1Q_i (l := .slc) (o := 0) (bSl (L.al.getD i default).bb (S.over (D.ar i).b bs off.toNat (fun j => decide (j < k) && q j)).length) (fun x hx => (hA1.var.ext hx)) rfl ?_
  refine sl2Q_i (by omega) (by omega) (show (to : Int) ≤ ((S.over (D.ar i).b bs off.toNat (fun j => decide (j < k) && q j)).length : Int) by omega) ?_
  refine slLoQ_i (by omega) (by omega) ?_
  have hA2 := hA1.fr (Ext.drew w) (fun _ _ => id)
  have hc := Bts.cutAll (hp.ext (Ext.drew w)) (l := ((fr : Int) - off).toNat) (by omega)
  rw [show ((fr : Int) - off).toNat = fr - off.toNat by omega] at hc ⊢
  simp only [Int.toNat_natCast]
  refine copyArea_i (A := (D.ar i).setB (S.over (D.ar i).b bs off.toNat (fun j => decide (j < k) && q j))) hA2 (by omega) (by rw [setB_len, hlen1]; omega) hc fun n w3 f3 hA3 => ?_
  rw [S.Area.setB_setB, S.Area.setB_b, ← S.over_step hfit hfr hto (by omega) hq] at hA3
  have h3 := (h1.ext (Ext.drew w)).upArea hil1 (f3.mono fun k _ hk => .inl hk) hA3 (by rw [S.Drv.ar_set hil]; rfl) (by rw [S.Drv.ar_set hil, setB_len, setB_len, S.over_length, S.over_length])
  rw [S.Drv.set_set] at h3
  exact hK w3 ((Ext.drew w).fr.trans f3 fun k _ hk => hk) h3
end
theorem dWrite_s {name : ByteArray} {off : Int} {p : Sl} {bs : List UInt8} {K : Int → World → Prop} (h : DriveAt w gd L D) (ho : S.I64 off) (hp : Bts w p bs) (hbl : bs.length ≤ 68719476736) (hsep : bs ≠ [] → ∀ a, p.a = some a → ¬ L.inD gd a.block)
    (hK : ∀ w', Fr (L.inD gd) w w' → DriveAt w' gd L (D.write name.toList off bs).2 → K (D.write name.toList off bs).1 w') :
    callS Try.prog 10 #[.pointer (some (at_ gd 0)), .string name, .int .i64 off, .slice p.a p.len p.cap] [.one (.int .i64)] K w := by
  refine f10_ok ?_
  unfold f10
  have hpl := Bts.len hp
  refine dFind_s h ho ⟨by omega, by omega⟩ ?_
  rw [show ((p.len : Nat) : Int) = ((bs.length : Nat) : Int) by rw [hpl]]
  unfold S.Drv.write at hK
  by_cases he : D.err name.toList off bs.length = 0
  · obtain ⟨hd, i, hi, hw⟩ := S.Drv.err_ok he
    rw [he, if_pos rfl, hi]
    rw [if_neg (by simp [he]), hi] at hK
    simp only [Option.getD_some, Option.map_some] at hK ⊢
    have hA := area_at h hi
    have hil := S.Drv.at?_lt hi
    have hal := hA.len
    have hm := al_mem (L := L) (i := i) (by rw [h.len]; exact hil)
    have inbb : L.inD gd (L.al.getD i default).bb := .inr (.inr (.inr (.inr ⟨_, hm, .inr (.inl rfl)⟩)))
    obtain ⟨q1, q2, q3, q4, q5⟩ := S.within_iff.1 hw
    have hfit : off.toNat + bs.length ≤ (D.ar i).b.length := by omega
    have hL := h.okL
    refine cond_i (fun h => by cases h) (fun _ => ?_)
    refine nil_i rfl ?_
    refine ld1_i (l := .int .i64) (o := 2) D.left h.var rfl ?_
    refine cond_i (fun hne => ?_) (fun heq => ?_)
    · have hne' : D.left ≠ 0 := by simpa using hne
      rw [if_pos hne'] at hK
      refine nil_i rfl ?_
      refine ld1_i (l := .int .i64) (o := 2) D.left h.var rfl ?_
      refine nil_i rfl ?_
      refine st1_i (o := 2) h.var (by simp [dCells]) rfl fun w1 f1 v1 => ?_
      rw [wrap_i64 (x := D.left - 1) (by omega) (by omega)] at v1
      have hmx : (if (-1) > D.left - 1 then (-1) else D.left - 1) = max (D.left - 1) (-1) := by omega
      rw [hmx] at v1
      have h1 := h.upVar (D' := { D with left := max (D.left - 1) (-1) }) f1 v1 rfl rfl (by simp only; omega) h.okC h.okB
      have hA1 : AreaAt w1 (L.al.getD i default) (D.ar i) := h1.areas i hil
      refine nil_i rfl ?_
      refine ld1_i (l := .slc) (o := 0) (bSl (L.al.getD i default).bb (D.ar i).b.length) hA1.var rfl ?_
      refine slLo_i (by omega) (show off ≤ ((D.ar i).b.length : Int) by omega) ?_
      have hp1 : Bts w1 p bs := rd_fr_ne hp f1 fun hne a ha e => hsep (by simpa using hne) a ha (.inl e)
      refine copyArea_i (hi := (D.ar i).b.length) hA1 (by omega) (Nat.le_refl _) hp1 fun n w2 f2 hA2 => ?_
      · rw [List.take_of_length_le (show bs.length ≤ (D.ar i).b.length - off.toNat by omega), show min bs.length ((D.ar i).b.length - off.toNat) = bs.length by omega, ← S.over_all hfit] at hA2
        have h2 := h1.upArea hil (f2.mono fun k _ hk => .inl hk) hA2 rfl (by rw [setB_len, S.over_length]; rfl)
        exact hK w2 ((f1.mono fun k _ hk => .inl hk).trans f2 fun k _ hk => by rw [hk]; exact inbb) h2
    · have heq' : D.left = 0 := by simpa using heq
      rw [if_neg (by simp [heq'])] at hK
      have hkl : L.ks.len = D.keep.length := by have := h.keep.len; simp at this; omega
      refine dSectors_s q1 (by omega) (by omega) ?_
      refine nil_i rfl ?_
      refine ld1_i (l := .slc) (o := 3) L.ks h.var rfl ?_
      have hn : S.nS off (bs.length : Int) ≤ 20000 := by unfold S.nS; split <;> omega
      have hn0 : 0 ≤ S.nS off (bs.length : Int) := by unfold S.nS; split <;> omega
      have hmn : (if (L.ks.len : Int) < S.nS off (bs.length : Int) then (L.ks.len : Int) else S.nS off (bs.length : Int)) = ((min D.keep.length (S.nS off (bs.length : Int)).toNat : Nat) : Int) := by rw [hkl]; split <;> omega
      rw [hmn]
      refine loop_i (fun (x : Int) w' => ∃ k : Nat, k ≤ min D.keep.length (S.nS off (bs.length : Int)).toNat ∧ x = k ∧ Fr (L.inD gd) w w' ∧ DriveAt w' gd L (D.set i ((D.ar i).setB (S.over (D.ar i).b bs off.toNat (fun j => decide (j < k) && D.keep.getD j false))))) (fun x _ => min D.keep.length (S.nS off (bs.length : Int)).toNat - x.toNat) ⟨0, by omega, rfl, Fr.refl _ _, ?_⟩ ?_
      · rw [S.over_none, S.Area.setB_self, S.Drv.set_self hil]; exact h
      · rintro x w1 again ⟨k, hk, rfl, f1, h1⟩ hag
        refine cond_i (fun hlt => ?_) (fun hge => ?_)
        · have hlt' : k < min D.keep.length (S.nS off (bs.length : Int)).toNat := by have := of_decide_eq_true hlt; omega
          have hbne : (bs.length : Int) ≠ 0 := fun e => by simp [S.nS, e] at hlt'
          have hns : S.nS off (bs.length : Int) = (off + bs.length - 1) / 64 - off / 64 + 1 := by unfold S.nS; rw [if_neg hbne]
          have hp1 : Bts w1 p bs := rd_fr_ne hp f1 fun hne a ha e => hsep (by simpa using hne) a ha e
          have hkeep1 : Rd w1 L.ks 1 (D.keep.map Value.bool) := h1.keep
          refine nil_i rfl ?_
          refine ld1_i (l := .slc) (o := 3) L.ks h1.var rfl ?_
          refine elem_i (l := .bool) (x := D.keep.getD k false) hkeep1 (by omega) (by omega) (by rw [Int.toNat_natCast, List.getElem?_map]; simp [show k < D.keep.length by omega, Lf.enc]) ?_
          refine cond_i (fun hkk => ?_) (fun hkk => ?_)
          · refine torn_i (K := fun w => again (IntKind.wrap .i64 ((k : Int) + 1)) w) h1 hil q1 hfit hal (by omega) (by omega) hkk hp1 fun w3 f3 h3 => ?_
            refine hag _ w3 ⟨k + 1, by omega, by rw [wrap_i64 (by omega) (by omega)]; omega, f1.trans f3 fun k _ hk => by rw [hk]; exact inbb, h3⟩ (by rw [wrap_i64 (by omega) (by omega)]; omega)
          · refine hag _ w1 ⟨k + 1, by omega, by rw [wrap_i64 (by omega) (by omega)]; omega, f1, by rw [S.over_skip hkk]; exact h1⟩ (by rw [wrap_i64 (by omega) (by omega)]; omega)
        · have hkn : k = min D.keep.length (S.nS off (bs.length : Int)).toNat := by have := of_decide_eq_false hge; omega
          have hov : S.over (D.ar i).b bs off.toNat (fun j => decide (j < k) && D.keep.getD j false) = S.over (D.ar i).b bs off.toNat fun k => D.keep.getD k false := by
            apply S.over_congr
            intro j h1 h2
            by_cases hj : j / 64 - off.toNat / 64 < k
            · simp [hj]
            · have hge2 : D.keep.length ≤ j / 64 - off.toNat / 64 := by
                have hbne : (bs.length : Int) ≠ 0 := by omega
                have hns : S.nS off (bs.length : Int) = (off + bs.length - 1) / 64 - off / 64 + 1 := by unfold S.nS; rw [if_neg hbne]
                omega
              simp [hj, hge2]
          rw [hov] at h1
          refine nil_i rfl ?_
          refine st1_i (o := 4) h1.var (by simp [dCells]) rfl fun w2 f2 v2 => ?_
          refine hK w2 (f1.trans f2 fun k _ hk => .inl hk) ?_
          exact h1.upVar f2 v2 rfl rfl h1.okL h1.okC h1.okB
  · rw [if_neg he]
    rw [if_pos he] at hK
    refine cond_i (fun _ => ?_) (fun h => by simp at h; exact absurd h he)
    exact hK w (Fr.refl _ _) h
end
end Go.Proofs.Ytjphpadgbhegaaa
