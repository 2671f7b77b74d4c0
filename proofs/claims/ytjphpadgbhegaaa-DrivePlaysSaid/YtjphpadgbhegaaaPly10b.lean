/- Layer 10 (drive): the twin's read. -/
import Derived.Test.YtjphpadgbhegaaaPly10a
set_option linter.unusedSimpArgs false
set_option linter.unusedVariables false
namespace Go.S
open Go Go.Eng
theorem badIn_bytes {A : Area} {off len : Int} (h0 : 0 ≤ off) (h1 : 0 ≤ len) : A.badIn off len = true ↔ ∃ j : Int, 0 ≤ j ∧ j < len ∧ A.bad ((off + j) / 64) = true := by
  unfold Area.badIn nS
  rw [List.any_eq_true]
  constructor
  · rintro ⟨k, hk, hb⟩
    rw [List.mem_range] at hk
    by_cases hl : len = 0
    · rw [if_pos hl] at hk; simp at hk
    · rw [if_neg hl] at hk
      by_cases hk0 : k = 0
      · subst hk0
        exact ⟨0, by omega, by omega, by rw [Int.add_zero]; simpa using hb⟩
      · refine ⟨(off / 64 + k) * 64 - off, by omega, by omega, ?_⟩
        rw [show (off + ((off / 64 + k) * 64 - off)) / 64 = off / 64 + k by omega]; exact hb
  · rintro ⟨j, hj0, hj1, hb⟩
    rw [if_neg (by omega)]
    refine ⟨((off + j) / 64 - off / 64).toNat, List.mem_range.2 (by omega), ?_⟩
    rw [show off / 64 + ((((off + j) / 64 - off / 64).toNat : Nat) : Int) = (off + j) / 64 by omega]; exact hb
theorem read_no {D : Drv} {n : List UInt8} {off len : Int} (hd : D.down = false) (h : D.at? n = none) : D.read n off len = ([], 40, D) := by
  have he : D.err n off len = 40 := by unfold Drv.err; rw [hd, h]; rfl
  unfold Drv.read; rw [he]; rfl
theorem read_at {D : Drv} {n : List UInt8} {i : Nat} {off len : Int} (hd : D.down = false) (h : D.at? n = some i) : D.read n off len = if within off len (D.ar i).b.length = false then ([], 10, D) else if (D.ar i).badIn off len then ([], 41, D) else (((D.ar i).b.drop off.toNat).take len.toNat, 0, { D with count := cap60 (D.count + 1), bytes := cap60 (D.bytes + len) }) := by
  have he : D.err n off len = if within off len (D.ar i).b.length then 0 else 10 := by unfold Drv.err; rw [hd, h]; rfl
  unfold Drv.read
  rw [he, h]
  cases within off len (D.ar i).b.length <;> rfl
end Go.S
namespace Go.Proofs.Ytjphpadgbhegaaa
open Go Go.Eng
/-- A drive whose numbers are small. -/
structure Small (D : S.Drv) : Prop where
  n : D.as.length ≤ 1000
  b : ∀ i, i < D.as.length → (D.ar i).b.length ≤ 1048576
  c : 0 ≤ D.count ∧ D.count ≤ 1000000000
  y : 0 ≤ D.bytes ∧ D.bytes ≤ 1000000000000000
section
variable {w w' : World} {B gt : Nat} {T : TLay} {lf : Int} {ar : Bool} {ks : Sl} {D : S.Drv}
theorem TwinAt.upVar {lf' : Int} {ar' : Bool} {ks' : Sl} {D' : S.Drv} (h : TwinAt w B gt T lf ar ks D) (hf : Fr (fun k => k = gt) w w') (hv : Var w' gt (tCells T lf' ar' ks' D')) (ha : D'.as = D.as) (hkeep : Rd w' ks' 1 (D'.keep.map Value.bool)) (harm : ar' = decide (0 ≤ D'.left) ∧ (ar' = true → lf' = D'.left) ∧ S.I64 lf') (hkne : D'.keep ≠ [] → ∀ a, ks'.a = some a → a.block < B) : TwinAt w' B gt T lf' ar' ks' D' := by
  have har : ∀ i, D'.ar i = D.ar i := fun i => by unfold S.Drv.ar; rw [ha]
  refine ⟨hv, ?_, ?_, ?_, ?_, ?_, hkeep, ?_, ?_, ?_, ?_, ?_, ?_, harm, hkne, ?_⟩
  · rw [ha]
    exact ⟨⟨h.ps.rds.rd.fr hf fun a hq e => h.gne _ (.inl ⟨a, hq, rfl⟩) e, h.ps.rds.len, h.ps.rds.each⟩, h.ps.ok⟩
  · rw [ha]; exact h.bs.fr hf fun a hq e => h.gne _ (.inr (.inl ⟨a, hq, rfl⟩)) e
  · rw [ha]; exact h.xs.fr hf fun a hq e => h.gne _ (.inr (.inr (.inl ⟨a, hq, rfl⟩))) e
  · intro i hi
    rw [ha] at hi; rw [har]
    exact (h.rB i hi).fr hf fun a hq e => h.gne _ (.inr (.inr (.inr (.inl ⟨i, hi, a, hq, rfl⟩)))) e
  · intro i hi
    rw [ha] at hi; rw [har]
    exact (h.rX i hi).fr hf fun a hq e => h.gne _ (.inr (.inr (.inr (.inr ⟨i, hi, a, hq, rfl⟩)))) e
  · rw [ha]; exact h.ge
  · rw [ha]; exact h.gne
  · rw [ha]; exact h.lne
  · rw [ha]; exact h.bne
  · rw [ha]; exact h.xne
  · rw [ha]; exact h.bx
  · rw [ha]; exact fun k hk2 => Nat.lt_of_lt_of_le (h.lt k hk2) hf.size
theorem badL_get {A : S.Area} {s : Nat} (h : s < A.b.length / 64) : (badL A)[s]? = some (A.bad (s : Int)) := by unfold badL; simp [h]
theorem tread_s {o : DOp} {K : Sl → Int → World → Prop} (h : TwinAt w B gt T lf ar ks D) (hD : Small D) (ho : o.Ok w)
    (h64 : ∀ i, i < D.as.length → (D.ar i).b.length % 64 = 0)
    (hK : ∀ v w', Fr (fun k => k = gt) w w' → TwinAt w' B gt T lf ar ks (D.read o.name o.off o.n).2.2 → Bts w' v (D.read o.name o.off o.n).1 → (∀ k, v.inB k → T.own D.as.length k) → K v (D.read o.name o.off o.n).2.1 w') :
    callS Try.prog 31 #[.pointer (some (at_ gt 0)), .agg o.cells.toArray] [.one .slc, .one (.int .i64)] K w := by
  refine f31_ok ?_
  unfold f31
  have nilB : ∀ w, Bts w Sl.nil [] := fun w => (Own.nilSl w 0 1).rd
  have nilIn : ∀ k, Sl.nil.inB k → T.own D.as.length k := fun k ⟨a, ha, _⟩ => by cases ha
  refine box_i fun g1 w1 e1 hg1 v1 => ?_
  have v1 : Var w1 g1 o.cells := v1
  refine ld1_i (l := .str) (o := 3) (str o.name) v1 rfl ?_
  refine tpart_s (h.ext e1) hD.n fun w2 e2 => ?_
  rw [str_toList]
  have e12 := e1.trans e2
  have h2 := h.ext e12
  have v2 := v1.ext e2
  refine nil_i rfl ?_
  refine ld1_i (l := .bool) (o := 6) D.down h2.var rfl ?_
  cases hd : D.down with
  | true =>
    refine cond_i (fun _ => ?_) (fun h => by cases h)
    have := hK Sl.nil w2 e12.fr
    rw [S.Keeps.readD hd] at this
    exact this h2 (nilB _) nilIn
  | false =>
    refine cond_i (fun h => by cases h) (fun _ => ?_)
    unfold atI
    cases hat : D.at? o.name with
    | none =>
      refine cond_i (fun _ => ?_) (fun h => by cases h)
      have := hK Sl.nil w2 e12.fr
      rw [S.read_no hd hat] at this
      exact this h2 (nilB _) nilIn
    | some i =>
      dsimp only
      have hi := S.Drv.at?_lt hat
      have hbl := hD.b i hi
      have hb64 := h64 i hi
      rw [S.read_at hd hat] at hK
      refine cond_i (fun h => absurd (of_decide_eq_true h) (show ¬ ((i : Int) < 0) by omega)) (fun _ => ?_)
      refine ld1_i (l := .int .i64) (o := 1) o.off v2 rfl ?_
      refine ld1_i (l := .int .i64) (o := 2) o.n v2 rfl ?_
      refine tin_s h2 hi hbl ho.off ho.n ?_
      cases hw : S.within o.off o.n (D.ar i).b.length with
      | false =>
        refine cond_i (fun _ => ?_) (fun h => by cases h)
        rw [if_pos hw] at hK
        exact hK Sl.nil w2 e12.fr h2 (nilB _) nilIn
      | true =>
        refine cond_i (fun h => by cases h) (fun _ => ?_)
        rw [if_neg (by rw [hw]; simp)] at hK
        have hwi := S.within_iff.1 hw
        refine ld1_i (l := .int .i64) (o := 2) o.n v2 rfl ?_
        refine loop_i (fun (x : Int) w' => Ext w2 w' ∧ ∃ k : Nat, (k : Int) ≤ o.n ∧ x = k ∧ ∀ j : Int, 0 ≤ j → j < k → (D.ar i).bad ((o.off + j) / 64) = false) (fun x _ => (o.n - x).toNat) ⟨Fr.refl _ _, 0, by omega, rfl, fun j h1 h2 => by omega⟩ ?_
        rintro x w3 again ⟨e3, k, hk, rfl, hno⟩ hag
        have h3 := h2.ext e3
        have v3 := v2.ext e3
        refine cond_i (fun hlt => ?_) (fun hge => ?_)
        · have hk' : (k : Int) < o.n := of_decide_eq_true hlt
          have hxl : T.xS.len = D.as.length := by have := h3.xs.len; simp at this; omega
          obtain ⟨xa, hxa⟩ := h3.xs.some (by omega)
          have hrl : (T.sX i).len = (D.ar i).b.length / 64 := by have := (h3.rX i hi).len; simp [badL] at this; omega
          obtain ⟨ra, hra⟩ := (h3.rX i hi).rd.some (by omega)
          have hd3 := Ext.drew w3
          refine ⟨fun x => Ext w3 x, hd3, ?_⟩
          refine nil_i rfl ?_
          refine ld1Q_i (l := .slc) (o := 2) T.xS (fun x hx => (h3.ext hx).var) rfl ?_
          refine elemQ_i (l := .slc) (x := T.sX i) hxa (fun x hx => (h3.ext hx).xs) (by omega) (by omega) (by rw [Int.toNat_natCast, List.getElem?_map, List.getElem?_range hi]; rfl) ?_
          refine ld1Q_i (l := .int .i64) (o := 1) o.off (fun x hx => v3.ext hx) rfl ?_
          rw [wrap_i64 (x := o.off + (k : Int)) (by omega) (by omega), Int.tdiv_eq_ediv_of_nonneg (by omega), wrap_i64 (x := (o.off + (k : Int)) / 64) (by omega) (by omega)]
          refine elemQ_i (l := .bool) (x := (D.ar i).bad ((o.off + (k : Int)) / 64)) hra (fun x hx => ((h3.ext hx).rX i hi).rd) (by omega) (by omega) ?_ ?_
          · rw [List.getElem?_map, badL_get (by omega), Int.toNat_of_nonneg (by omega)]; rfl
          · cases hbad : (D.ar i).bad ((o.off + (k : Int)) / 64) with
            | true =>
              refine cond_i (fun _ => ?_) (fun h => by cases h)
              rw [if_pos ((S.badIn_bytes (by omega) (by omega)).2 ⟨k, by omega, hk', hbad⟩)] at hK
              exact hK Sl.nil w3.drew ((e12.trans e3).trans hd3).fr (h3.ext hd3) (nilB _) nilIn
            | false =>
              refine cond_i (fun h => by cases h) (fun _ => ?_)
              refine hag _ w3.drew ⟨e3.trans hd3, k + 1, by omega, ?_, fun j hj0 hj1 => ?_⟩ ?_
              · simp only [wrap_i64 (x := (k : Int) + 1) (by omega) (by omega)]; omega
              · by_cases hjk : j = k
                · subst hjk; exact hbad
                · exact hno j hj0 (by omega)
              · simp only [wrap_i64 (x := (k : Int) + 1) (by omega) (by omega)]; omega
        · have hk' : (k : Int) = o.n := by have := of_decide_eq_false hge; omega
          have hnb : ¬ (D.ar i).badIn o.off o.n = true := fun hb => by
            obtain ⟨j, hj0, hj1, hb⟩ := (S.badIn_bytes (by omega) (by omega)).1 hb
            rw [hno j hj0 (by omega)] at hb; cases hb
          rw [if_neg hnb] at hK
          have hc := hD.c
          have hy := hD.y
          refine nil_i rfl ?_
          refine ld1_i (l := .int .i64) (o := 7) D.count h3.var rfl ?_
          refine nil_i rfl ?_
          refine st1_i (o := 7) h3.var (show 7 < 9 by decide) rfl fun w4 f4 v4 => ?_
          have hd4 := Ext.drew w4
          refine ⟨fun x => Ext w4 x, hd4, ?_⟩
          refine nil_i rfl ?_
          have hg1t : g1 ≠ gt := by have := h.var.lt; omega
          have v34 := v3.fr f4 hg1t
          refine ld1Q_i (l := .int .i64) (o := 8) D.bytes (fun x hx => v4.ext hx) rfl ?_
          refine ld1Q_i (l := .int .i64) (o := 2) o.n (fun x hx => v34.ext hx) rfl ?_
          refine nil_i rfl ?_
          refine st1_i (o := 8) (v4.ext hd4) (show 8 < 9 by decide) rfl fun w5 f5 v5 => ?_
          have hc60 : S.cap60 (D.count + 1) = D.count + 1 := by unfold S.cap60; rw [if_neg (by omega)]
          have hy60 : S.cap60 (D.bytes + o.n) = D.bytes + o.n := by unfold S.cap60; rw [if_neg (by omega)]
          rw [wrap_i64 (x := D.count + 1) (by omega) (by omega), wrap_i64 (x := D.bytes + o.n) (by omega) (by omega)] at v5
          have f35 : Fr (fun k => k = gt) w3 w5 := (f4.then hd4).trans' f5
          have t5 : TwinAt w5 B gt T lf ar ks { D with count := S.cap60 (D.count + 1), bytes := S.cap60 (D.bytes + o.n) } := by
            rw [hc60, hy60]
            exact h3.upVar f35 v5 rfl (rd_fr_ne h3.keep f35 fun hne a ha e => by have e2 : a.block = gt := e; have := h3.kne (by simpa using hne) a ha; have := h3.ge.1; omega) h3.arm h3.kne
          have v35 := (v34.ext hd4).fr f5 hg1t
          have hd5 := Ext.drew w5
          refine ⟨fun x => Ext w5 x, hd5, ?_⟩
          refine nil_i rfl ?_
          have hbl2 : T.bS.len = D.as.length := by have := t5.bs.len; simp at this; omega
          obtain ⟨ba, hba⟩ := t5.bs.some (by omega)
          refine ld1Q_i (l := .slc) (o := 1) T.bS (fun x hx => (t5.ext hx).var) rfl ?_
          refine elemQ_i (l := .slc) (x := T.sB i) hba (fun x hx => (t5.ext hx).bs) (by omega) (by omega) (by rw [Int.toNat_natCast, List.getElem?_map, List.getElem?_range hi]; rfl) ?_
          refine ld1Q_i (l := .int .i64) (o := 1) o.off (fun x hx => v35.ext hx) rfl ?_
          refine ld1Q_i (l := .int .i64) (o := 1) o.off (fun x hx => v35.ext hx) rfl ?_
          refine ld1Q_i (l := .int .i64) (o := 2) o.n (fun x hx => v35.ext hx) rfl ?_
          rw [wrap_i64 (x := o.off + o.n) (by omega) (by omega)]
          have hr5 : OwnB w5 B (T.sB i) (D.ar i).b := t5.rB i hi
          have hrl := OwnB.len hr5
          have hcp := hr5.rd.cap
          refine sl2Q_i (by omega) (by omega) (by omega) ?_
          have f25 : Fr (fun k => k = gt) w w5 := (e12.trans e3).fr.trans' f35
          refine hK _ w5.drew (f25.then hd5) (t5.ext hd5) ?_ fun k hk => ?_
          · have := Bts.cut ((hr5.ext hd5).rd) (l := o.off.toNat) (hi := (o.off + o.n).toNat) (by omega) (by omega)
            rw [show (o.off + o.n).toNat - o.off.toNat = o.n.toNat by omega] at this
            exact this
          · exact .inr (.inr (.inr (.inl ⟨i, hi, Sl.cut_inB hk⟩)))
end
end Go.Proofs.Ytjphpadgbhegaaa
