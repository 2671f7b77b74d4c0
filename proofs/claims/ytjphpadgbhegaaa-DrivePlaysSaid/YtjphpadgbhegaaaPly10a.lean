/- Layer 10 (drive): the law's own drive ('twin') in memory; its small methods. -/
import Derived.Test.YtjphpadgbhegaaaLaw10d
set_option linter.unusedSimpArgs false
set_option linter.unusedVariables false
namespace Go.Eng
open Go
/-- 's[i]' of a text. -/
theorem ixStr_i {P : Program} {w : World} {t : TypeId} [h : StrTy P t] {s : ByteArray} {i : Nat} {K : Int → World → Prop} (hi : i < s.toList.length) (hK : K ((s.toList[i].toNat : Nat) : Int) w) : semS P (Instr.index t (.string s) (.int .i64 (i : Int))) (.one (.int .u8)) K w := by
  have hsz : s.toList.length = s.size := by rw [← str_size, str_of]
  refine ⟨.int .u8 (s.toList[i].toNat : Nat), w, ?_, one_dec (l := .int .u8) hK⟩
  rw [run_index_string w t s .i64 (i : Int) h.und, dif_pos ⟨by omega, by omega⟩]
  congr 3
  have e : s.toList = s.data.toList := ByteArray.toList_eq s
  simp only [Int.toNat_natCast]
  have : s[i]'(by omega) = s.toList[i] := by
    simp only [e]; rfl
  rw [this]
end Go.Eng
namespace Go.Proofs.Ytjphpadgbhegaaa
open Go Go.Eng
theorem okc_code (b : UInt8) : (!((((decide ((b.toNat : Int) ≥ 97)) && (decide ((b.toNat : Int) ≤ 122))) || ((decide ((b.toNat : Int) ≥ 48)) && (decide ((b.toNat : Int) ≤ 57)))) || ((b.toNat : Int) == 95))) = !S.okc b := badc_lo b
theorem named10_s {s : ByteArray} {K : Bool → World → Prop} {w : World} (hl : s.size ≤ 9223372036854775807) (hK : K (S.named s.toList) w) : callS Try.prog 29 #[.string s] [.one .bool] K w := by
  refine f29_ok ?_
  unfold f29
  have hsz : s.toList.length = s.size := by rw [← str_size, str_of]
  refine loop_i (fun (x : Int) w' => w' = w ∧ ∃ i : Nat, i ≤ s.size ∧ x = i ∧ (s.toList.take i).all S.okc = true) (fun x _ => s.size - x.toNat) ⟨rfl, 0, by omega, rfl, rfl⟩ ?_
  rintro x w' again ⟨rfl, i, hi, rfl, hall⟩ hag
  refine cond_i (fun hlt => ?_) (fun hge => ?_)
  · have hi' : i < s.size := by have := of_decide_eq_true hlt; omega
    refine ixStr_i (by omega) ?_
    have ht : s.toList.take (i + 1) = s.toList.take i ++ [s.toList[i]'(by omega)] := List.take_succ_eq_append_getElem (by omega)
    rw [okc_code]
    cases hc : S.okc (s.toList[i]'(by omega)) with
    | false =>
      refine cond_i (fun _ => ?_) (fun h => by cases h)
      have : S.named s.toList = false := by
        unfold S.named
        have : s.toList.all S.okc = false := by
          rw [Bool.eq_false_iff]
          intro h
          rw [List.all_eq_true] at h
          have := h _ (List.getElem_mem (by omega : i < s.toList.length))
          rw [hc] at this; cases this
        rw [this, Bool.and_false]
      rw [this] at hK; exact hK
    | true =>
      refine cond_i (fun h => by cases h) (fun _ => ?_)
      refine hag _ w' ⟨rfl, i + 1, by omega, ?_, ?_⟩ ?_
      · simp only [wrap_i64 (x := (i : Int) + 1) (by omega) (by omega)]; omega
      · rw [ht, List.all_append, hall]; simp [hc]
      · simp only [wrap_i64 (x := (i : Int) + 1) (by omega) (by omega)]; omega
  · have hi' : i = s.size := by have := of_decide_eq_false hge; omega
    subst hi'
    rw [List.take_of_length_le (by omega)] at hall
    have : ((decide ((s.size : Int) ≥ 1)) && (decide ((s.size : Int) ≤ 24))) = S.named s.toList := by
      unfold S.named
      rw [hall, Bool.and_true, hsz]
      congr 1 <;> (rw [decide_eq_decide]; omega)
    rw [this]; exact hK
/-- Where the twin lies: its lists, and its partitions' bytes and bad sectors. -/
structure TLay where
  ps : Sl
  bS : Sl
  xS : Sl
  sB : Nat → Sl
  sX : Nat → Sl
def badL (A : S.Area) : List Bool := (List.range (A.b.length / 64)).map fun (s : Nat) => A.bad (s : Int)
def tCells (T : TLay) (lf : Int) (ar : Bool) (ks : Sl) (D : S.Drv) : List Value := [slV T.ps, slV T.bS, slV T.xS, .int .i64 lf, .bool ar, slV ks, .bool D.down, .int .i64 D.count, .int .i64 D.bytes]
def TLay.own (T : TLay) (n k : Nat) : Prop := T.ps.inB k ∨ T.bS.inB k ∨ T.xS.inB k ∨ (∃ i, i < n ∧ (T.sB i).inB k) ∨ ∃ i, i < n ∧ (T.sX i).inB k
structure TwinAt (w : World) (B gt : Nat) (T : TLay) (lf : Int) (ar : Bool) (ks : Sl) (D : S.Drv) : Prop where
  var : Var w gt (tCells T lf ar ks D)
  ps : PartsIn w T.ps (D.as.map fun a => (a.name, (a.b.length : Int)))
  bs : Rd w T.bS 1 ((List.range D.as.length).map fun i => slV (T.sB i))
  xs : Rd w T.xS 1 ((List.range D.as.length).map fun i => slV (T.sX i))
  rB : ∀ i, i < D.as.length → OwnB w B (T.sB i) (D.ar i).b
  rX : ∀ i, i < D.as.length → Own w B (T.sX i) 1 ((badL (D.ar i)).map Value.bool)
  keep : Rd w ks 1 (D.keep.map Value.bool)
  ge : B ≤ gt ∧ ∀ k, T.own D.as.length k → B ≤ k
  gne : ∀ k, T.own D.as.length k → k ≠ gt
  lne : ∀ k, (T.ps.inB k ∨ T.bS.inB k ∨ T.xS.inB k) → (∀ i, i < D.as.length → ¬ (T.sB i).inB k ∧ ¬ (T.sX i).inB k)
  bne : ∀ i j, i < D.as.length → j < D.as.length → i ≠ j → ∀ k, (T.sB i).inB k → ¬ (T.sB j).inB k
  xne : ∀ i j, i < D.as.length → j < D.as.length → i ≠ j → ∀ k, (T.sX i).inB k → ¬ (T.sX j).inB k
  bx : ∀ i j, i < D.as.length → j < D.as.length → ∀ k, (T.sB i).inB k → ¬ (T.sX j).inB k
  arm : ar = decide (0 ≤ D.left) ∧ (ar = true → lf = D.left) ∧ S.I64 lf
  kne : D.keep ≠ [] → ∀ a, ks.a = some a → a.block < B
  lt : ∀ k, T.own D.as.length k → k < w.heap.size
section
variable {w w' : World} {B gt : Nat} {T : TLay} {lf : Int} {ar : Bool} {ks : Sl} {D : S.Drv}
theorem TwinAt.fr {S : Nat → Prop} (h : TwinAt w B gt T lf ar ks D) (hf : Fr S w w') (hs : ∀ k, B ≤ k → S k → k ≠ gt ∧ ¬ T.own D.as.length k) (hk : ∀ k, S k → B ≤ k) : TwinAt w' B gt T lf ar ks D :=
  ⟨h.var.fr hf fun hk2 => (hs _ h.ge.1 hk2).1 rfl,
   ⟨⟨h.ps.rds.rd.fr hf fun a ha hk2 => (hs _ (hk _ hk2) hk2).2 (.inl ⟨a, ha, rfl⟩), h.ps.rds.len, h.ps.rds.each⟩, h.ps.ok⟩,
   h.bs.fr hf fun a ha hk2 => (hs _ (hk _ hk2) hk2).2 (.inr (.inl ⟨a, ha, rfl⟩)),
   h.xs.fr hf fun a ha hk2 => (hs _ (hk _ hk2) hk2).2 (.inr (.inr (.inl ⟨a, ha, rfl⟩))),
   fun i hi => (h.rB i hi).fr hf fun a ha hk2 => (hs _ (hk _ hk2) hk2).2 (.inr (.inr (.inr (.inl ⟨i, hi, a, ha, rfl⟩)))),
   fun i hi => (h.rX i hi).fr hf fun a ha hk2 => (hs _ (hk _ hk2) hk2).2 (.inr (.inr (.inr (.inr ⟨i, hi, a, ha, rfl⟩)))),
   rd_fr_ne h.keep hf fun hne a ha hk2 => by have := h.kne (by simpa using hne) a ha; have := hk _ hk2; omega,
   h.ge, h.gne, h.lne, h.bne, h.xne, h.bx, h.arm, h.kne, fun k hk2 => Nat.lt_of_lt_of_le (h.lt k hk2) hf.size⟩
theorem TwinAt.ext (h : TwinAt w B gt T lf ar ks D) (hf : Ext w w') : TwinAt w' B gt T lf ar ks D := h.fr hf (fun _ _ h => h.elim) fun _ h => h.elim
theorem PartsIn.name {ps : S.PartL} {i : Nat} (h : i < ps.length) : ps[i]? = some (ps.getD i ([], 0)) := by simp [h]
def atI (D : S.Drv) (n : List UInt8) : Int := match D.at? n with | none => -1 | some i => (i : Int)
theorem tpart_s {name : ByteArray} {K : Int → World → Prop} (h : TwinAt w B gt T lf ar ks D) (hn : D.as.length ≤ 1000) (hK : ∀ w', Ext w w' → K (atI D name.toList) w') :
    callS Try.prog 30 #[.pointer (some (at_ gt 0)), .string name] [.one (.int .i64)] K w := by
  refine f30_ok ?_
  unfold f30
  refine nil_i rfl ?_
  refine ld1_i (l := .slc) (o := 0) T.ps h.var rfl ?_
  have hpl := h.ps.len
  rw [List.length_map] at hpl
  refine loop_i (fun (x : Int) w' => Ext w w' ∧ ∃ i : Nat, i ≤ D.as.length ∧ x = i ∧ ∀ j, j < i → ((D.ar j).name == name.toList) = false) (fun x _ => D.as.length - x.toNat) ⟨Fr.refl _ _, 0, by omega, rfl, fun j hj => by omega⟩ ?_
  rintro x w2 again ⟨e2, i, hi, rfl, hno⟩ hag
  refine cond_i (fun hlt => ?_) (fun hge => ?_)
  · have hi' : i < D.as.length := by have := of_decide_eq_true hlt; omega
    refine part_at (h.ps.ext e2) (by rw [List.length_map]; exact hi') fun g w3 e3 hg v3 => ?_
    have hgd : (D.as.map fun a => (a.name, (a.b.length : Int))).getD i ([], 0) = ((D.ar i).name, ((D.ar i).b.length : Int)) := by
      unfold S.Drv.ar
      simp [hi']
    rw [hgd] at v3
    refine ld1_i (l := .str) (str (D.ar i).name) v3 rfl ?_
    rw [str_toList]
    refine cond_i (fun hc => ?_) (fun hc => ?_)
    · have : D.at? name.toList = some i := by
        unfold S.Drv.at?
        rw [List.findIdx?_eq_some_iff_getElem]
        refine ⟨hi', ?_, fun j hj => ?_⟩
        · have := hc; unfold S.Drv.ar at this; simpa [hi'] using this
        · have := hno j hj; unfold S.Drv.ar at this; simpa [show j < D.as.length by omega] using this
      have hk := hK w3 (e2.trans e3)
      unfold atI at hk
      rw [this] at hk; exact hk
    · refine hag _ w3 ⟨e2.trans e3, i + 1, by omega, ?_, fun j hj => ?_⟩ ?_
      · simp only [wrap_i64 (x := (i : Int) + 1) (by omega) (by omega)]; omega
      · by_cases hji : j = i
        · subst hji; exact hc
        · exact hno j (by omega)
      · simp only [wrap_i64 (x := (i : Int) + 1) (by omega) (by omega)]; omega
  · have hi' : i = D.as.length := by have := of_decide_eq_false hge; omega
    subst hi'
    have : D.at? name.toList = none := by
      unfold S.Drv.at?
      rw [List.findIdx?_eq_none_iff]
      intro a ha
      obtain ⟨j, hj, rfl⟩ := List.getElem_of_mem ha
      have := hno j hj; unfold S.Drv.ar at this; simpa [hj] using this
    have hk := hK w2 e2
    unfold atI at hk
    rw [this] at hk; exact hk
theorem tin_s {i : Nat} {off n : Int} {K : Bool → World → Prop} (h : TwinAt w B gt T lf ar ks D) (hi : i < D.as.length) (hb : (D.ar i).b.length ≤ 1048576) (ho : S.I64 off) (hn : S.I64 n) (hK : K (S.within off n (D.ar i).b.length) w) :
    callS Try.prog 33 #[.pointer (some (at_ gt 0)), .int .i64 (i : Int), .int .i64 off, .int .i64 n] [.one .bool] K w := by
  refine f33_ok ?_
  unfold f33
  have hbl : T.bS.len = D.as.length := by have := h.bs.len; simp at this; omega
  have hrl := OwnB.len (h.rB i hi)
  have L1 : ∀ {K : Sl → World → Prop}, K (T.sB i) w → semS Try.prog (Instr.indexAt 50 (.slice T.bS.a T.bS.len T.bS.cap) (.int .i64 (i : Int))) (.one .adr) (fun x7 w => semS Try.prog (Instr.loadAt 22 (.pointer (some x7))) (.one .slc) K w) w := fun hk =>
    elem_i (l := .slc) (x := T.sB i) h.bs (by omega) (by omega) (by rw [Int.toNat_natCast, List.getElem?_map, List.getElem?_range hi]; rfl) hk
  refine join_i (fun c w' => c = (decide (off ≥ 0) && decide (n ≥ 0) && decide (off ≤ (D.ar i).b.length)) ∧ w = w') ?_ fun J hJ => ?_
  rotate_left
  · refine cond_i (fun hc => ?_) (fun hc => hJ _ _ ⟨by rw [hc]; rfl, rfl⟩)
    refine nil_i rfl ?_
    refine ld1_i (l := .slc) (o := 1) T.bS h.var rfl ?_
    refine L1 (hJ _ _ ⟨?_, rfl⟩)
    rw [hc, Bool.true_and, hrl]
  rintro c w' ⟨hc0, rfl⟩
  refine join_i (fun c' w' => c' = S.within off n (D.ar i).b.length ∧ w = w') ?_ fun J hJ => ?_
  · rintro c' w' ⟨rfl, rfl⟩; exact hK
  · refine cond_i (fun hc => ?_) (fun hc => hJ _ _ ⟨?_, rfl⟩)
    · rw [hc] at hc0
      have hh : off ≥ 0 ∧ n ≥ 0 ∧ off ≤ (D.ar i).b.length := by simpa [and_assoc] using hc0.symm
      refine nil_i rfl ?_
      refine ld1_i (l := .slc) (o := 1) T.bS h.var rfl ?_
      refine L1 (hJ _ _ ⟨?_, rfl⟩)
      rw [wrap_i64 (by omega) (by omega), Bool.eq_iff_iff, decide_eq_true_eq, S.within_iff]
      omega
    · rw [hc] at hc0
      symm
      rw [Bool.eq_false_iff]
      intro hw
      have := S.within_iff.1 hw
      simp at hc0
      omega
end
end Go.Proofs.Ytjphpadgbhegaaa
