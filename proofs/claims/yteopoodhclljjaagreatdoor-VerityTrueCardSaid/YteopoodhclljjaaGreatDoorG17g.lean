/- Layer 10 (drive): a drive in memory; the small methods. / Layer 10 (drive): Read and Write. / Layer 10 (drive): Turn and Bad. / Names of partitions: a text that is ranged over, letter by letter (drive.named, descr.named and what they call). / Layer 10 (drive): New. / Layer 10 (drive): New, whole. / Layer 10 (drive): drives of one partition, as plain data. -/
import Derived.Test.YteopoodhclljjaaGreatDoorSh
import Derived.Test.YteopoodhclljjaaGreatDoorTy
import Derived.Test.YteopoodhclljjaaGreatDoorG17b
import Derived.Test.YteopoodhclljjaaGreatDoorG17a
import Derived.Test.YteopoodhclljjaaGreatDoorLib6
import Derived.Test.YteopoodhclljjaaGreatDoorRowLib3
set_option linter.unusedSimpArgs false
set_option linter.unusedVariables false
/-! Drv10a -/
namespace Go.Proofs.YteopoodhclljjaaGreatDoor
open Go Go.Eng

/-- Where an area lies: itself, its bytes, its bad sectors. -/
structure AL where
  g : Nat
  bb : Nat
  mb : Nat
instance : Inhabited AL := ⟨⟨0, 0, 0⟩⟩
structure Lay where
  ps : Sl
  m : Nat
  ks : Sl
  al : List AL
def AL.inA (a : AL) (k : Nat) : Prop := k = a.g ∨ k = a.bb ∨ k = a.mb
def Lay.inD (L : Lay) (gd k : Nat) : Prop := k = gd ∨ k = L.m ∨ L.ks.inB k ∨ L.ps.inB k ∨ ∃ a ∈ L.al, a.inA k
abbrev bSl (bb n : Nat) : Sl := ⟨some (at_ bb 0), n, n⟩
structure AreaAt (w : World) (a : AL) (A : S.Area) : Prop where
  var : Var w a.g [.slice (some (at_ a.bb 0)) A.b.length A.b.length, .map (some a.mb)]
  row : Var w a.bb (A.b.map vB)
  bad : MapAt w kInt Value.bool a.mb (fun k => if A.bad k then some true else none)
  ne : a.g ≠ a.bb ∧ a.g ≠ a.mb ∧ a.bb ≠ a.mb
  len : A.b.length ≤ 1048576
def dCells (L : Lay) (D : S.Drv) : List Value := [.slice L.ps.a L.ps.len L.ps.cap, .map (some L.m), .int .i64 D.left, .slice L.ks.a L.ks.len L.ks.cap, .bool D.down, .int .i64 D.count, .int .i64 D.bytes]
structure DriveAt (w : World) (gd : Nat) (L : Lay) (D : S.Drv) : Prop where
  var : Var w gd (dCells L D)
  map : MapAt w kStr vPtr L.m (fun name => (D.at? name).map fun i => at_ (L.al.getD i default).g 0)
  len : L.al.length = D.as.length
  areas : ∀ i, i < D.as.length → AreaAt w (L.al.getD i default) (D.ar i)
  apart : ∀ i j, i < D.as.length → j < D.as.length → i ≠ j → ∀ k, (L.al.getD i default).inA k → ¬ (L.al.getD j default).inA k
  keep : Rd w L.ks 1 (D.keep.map Value.bool)
  parts : Rd w L.ps 2 (D.as.flatMap fun a => [.string (str a.name), .int .i64 (a.b.length : Int)])
  gdm : gd ≠ L.m
  sepA : ∀ a ∈ L.al, ¬ a.inA gd ∧ ¬ a.inA L.m
  sepS : ∀ k, (L.ks.inB k ∨ L.ps.inB k) → k ≠ gd ∧ k ≠ L.m ∧ (∀ a ∈ L.al, ¬ a.inA k) ∧ k < w.heap.size
  okL : -1 ≤ D.left ∧ D.left ≤ 9223372036854775807
  okC : 0 ≤ D.count ∧ D.count ≤ 1152921504606846976
  okB : 0 ≤ D.bytes ∧ D.bytes ≤ 1152921504606846976
section
variable {w w' : World} {gd : Nat} {L : Lay} {D : S.Drv}
theorem al_mem {L : Lay} {i : Nat} (h : i < L.al.length) : L.al.getD i default ∈ L.al := by simp [h]
theorem AreaAt.lt {a : AL} {A : S.Area} (h : AreaAt w a A) {k : Nat} (hk : a.inA k) : k < w.heap.size := by
  rcases hk with rfl | rfl | rfl
  · exact h.var.lt
  · exact h.row.lt
  · exact h.bad.lt
theorem AreaAt.fr {T : Nat → Prop} {a : AL} {A : S.Area} (h : AreaAt w a A) (hf : Fr T w w') (hs : ∀ k, a.inA k → ¬ T k) : AreaAt w' a A :=
  ⟨h.var.fr hf (hs _ (.inl rfl)), h.row.fr hf (hs _ (.inr (.inl rfl))), h.bad.fr hf (hs _ (.inr (.inr rfl))), h.ne, h.len⟩
theorem DriveAt.lt (h : DriveAt w gd L D) {k : Nat} (hk : L.inD gd k) : k < w.heap.size := by
  rcases hk with rfl | rfl | hk | hk | ⟨a, ha, hk⟩
  · exact h.var.lt
  · exact h.map.lt
  · exact (h.sepS k (.inl hk)).2.2.2
  · exact (h.sepS k (.inr hk)).2.2.2
  · obtain ⟨i, hi⟩ := List.getElem?_of_mem ha
    have hl := (List.getElem?_eq_some_iff.1 hi).1
    have := h.areas i (by rw [← h.len]; exact hl)
    rw [show L.al.getD i default = a by simp [hi]] at this
    exact this.lt hk
theorem DriveAt.fr {S : Nat → Prop} (h : DriveAt w gd L D) (hf : Fr S w w') (hs : ∀ k, L.inD gd k → ¬ S k) : DriveAt w' gd L D := by
  refine ⟨h.var.fr hf (hs _ (.inl rfl)), h.map.fr hf (hs _ (.inr (.inl rfl))), h.len, fun i hi => (h.areas i hi).fr hf fun k hk => hs k (.inr (.inr (.inr (.inr ⟨_, al_mem (by rw [h.len]; exact hi), hk⟩)))), h.apart,
    h.keep.fr hf fun a ha => hs _ (.inr (.inr (.inl ⟨a, ha, rfl⟩))), h.parts.fr hf fun a ha => hs _ (.inr (.inr (.inr (.inl ⟨a, ha, rfl⟩)))), h.gdm, h.sepA, fun k hk => ?_, h.okL, h.okC, h.okB⟩
  obtain ⟨h1, h2, h3, h4⟩ := h.sepS k hk
  exact ⟨h1, h2, h3, Nat.lt_of_lt_of_le h4 hf.size⟩
theorem DriveAt.ext (h : DriveAt w gd L D) (hf : Ext w w') : DriveAt w' gd L D := h.fr hf fun _ _ => id
/-- The drive's own variable, turned. -/
theorem DriveAt.upVar {D' : S.Drv} (h : DriveAt w gd L D) (hf : Fr (fun k => k = gd) w w') (hv : Var w' gd (dCells L D')) (ha : D'.as = D.as) (hk : D'.keep = D.keep) (h1 : -1 ≤ D'.left ∧ D'.left ≤ 9223372036854775807) (h2 : 0 ≤ D'.count ∧ D'.count ≤ 1152921504606846976) (h3 : 0 ≤ D'.bytes ∧ D'.bytes ≤ 1152921504606846976) : DriveAt w' gd L D' := by
  have har : ∀ i, D'.ar i = D.ar i := fun i => by unfold S.Drv.ar; rw [ha]
  refine ⟨hv, (h.map.fr hf fun e => h.gdm e.symm).congr fun k => by rw [S.Drv.at?_congr ha], by rw [ha]; exact h.len, fun i hi => ?_, fun i j hi hj => h.apart i j (by rw [← ha]; exact hi) (by rw [← ha]; exact hj), ?_, ?_, h.gdm, h.sepA, fun k hk => ?_, h1, h2, h3⟩
  · rw [ha] at hi
    rw [har]
    exact (h.areas i hi).fr hf fun k hk e => (h.sepA _ (al_mem (by rw [h.len]; exact hi))).1 (e ▸ hk)
  · rw [hk]; exact h.keep.fr hf fun a ha e => (h.sepS _ (.inl ⟨a, ha, rfl⟩)).1 e
  · rw [ha]; exact h.parts.fr hf fun a ha e => (h.sepS _ (.inr ⟨a, ha, rfl⟩)).1 e
  · obtain ⟨h1, h2, h3, h4⟩ := h.sepS k hk
    exact ⟨h1, h2, h3, Nat.lt_of_lt_of_le h4 hf.size⟩
/-- One area, turned: its bytes, or its bad sectors. -/
theorem DriveAt.upArea {A : S.Area} {i : Nat} (h : DriveAt w gd L D) (hi : i < D.as.length) (hf : Fr (fun k => k = (L.al.getD i default).bb ∨ k = (L.al.getD i default).mb) w w') (hA : AreaAt w' (L.al.getD i default) A) (hn : A.name = (D.ar i).name) (hl : A.b.length = (D.ar i).b.length) : DriveAt w' gd L (D.set i A) := by
  have hm := al_mem (L := L) (i := i) (by rw [h.len]; exact hi)
  have hsep := h.sepA _ hm
  have hlen : (D.set i A).as.length = D.as.length := by simp [S.Drv.set]
  have hgd : ¬ (gd = (L.al.getD i default).bb ∨ gd = (L.al.getD i default).mb) := fun e => hsep.1 (e.elim (fun e => .inr (.inl e)) fun e => .inr (.inr e))
  have hmm : ¬ (L.m = (L.al.getD i default).bb ∨ L.m = (L.al.getD i default).mb) := fun e => hsep.2 (e.elim (fun e => .inr (.inl e)) fun e => .inr (.inr e))
  have hS : ∀ k, (L.ks.inB k ∨ L.ps.inB k) → ¬ (k = (L.al.getD i default).bb ∨ k = (L.al.getD i default).mb) := fun k hk e => (h.sepS k hk).2.2.1 _ hm (e.elim (fun e => .inr (.inl e)) fun e => .inr (.inr e))
  refine ⟨h.var.fr hf hgd, (h.map.fr hf hmm).congr fun k => by rw [S.Drv.at?_set hn], by rw [hlen]; exact h.len, fun j hj => ?_, fun a b ha hb => h.apart a b (by rw [← hlen]; exact ha) (by rw [← hlen]; exact hb), h.keep.fr hf fun a ha => hS _ (.inl ⟨a, ha, rfl⟩), ?_, h.gdm, h.sepA, fun k hk => ?_, h.okL, h.okC, h.okB⟩
  · rw [hlen] at hj
    by_cases hij : i = j
    · subst hij
      rw [show (D.set i A).ar i = A by simp [S.Drv.set, S.Drv.ar, hi]]
      exact hA
    · rw [show (D.set i A).ar j = D.ar j by simp [S.Drv.set, S.Drv.ar, hij]]
      exact (h.areas j hj).fr hf fun k hk e => h.apart i j hi hj hij k (e.elim (fun e => .inr (.inl e)) fun e => .inr (.inr e)) hk
  · have : ((D.set i A).as.flatMap fun a => [Value.string (str a.name), .int .i64 (a.b.length : Int)]) = D.as.flatMap fun a => [.string (str a.name), .int .i64 (a.b.length : Int)] := by
      have key : ∀ (l : List S.Area) (i : Nat), i < l.length → A.name = (l.getD i default).name → A.b.length = (l.getD i default).b.length → ((l.set i A).flatMap fun a => [Value.string (str a.name), .int .i64 (a.b.length : Int)]) = l.flatMap fun a => [.string (str a.name), .int .i64 (a.b.length : Int)] := by
        intro l
        induction l with
        | nil => intro i hi; simp at hi
        | cons x l ih =>
          intro i hi h1 h2
          cases i with
          | zero => simp at h1 h2; simp [h1, h2]
          | succ i => simp only [List.set_cons_succ, List.flatMap_cons]; rw [ih i (by simpa using hi) (by simpa using h1) (by simpa using h2)]
      exact key D.as i hi hn hl
    rw [this]
    exact h.parts.fr hf fun a ha => hS _ (.inr ⟨a, ha, rfl⟩)
  · obtain ⟨h1, h2, h3, h4⟩ := h.sepS k hk
    exact ⟨h1, h2, h3, Nat.lt_of_lt_of_le h4 hf.size⟩
end
section
variable {w : World} {gd : Nat} {L : Lay} {D : S.Drv}
/-- 'd.areas[name]' -/
theorem area_look {name : ByteArray} {K : Option Addr → World → Prop} (h : DriveAt w gd L D) (hK : K ((D.at? name.toList).map fun i => at_ (L.al.getD i default).g 0) w) :
    semS Tryz.prog (Instr.loadAt 123 (.pointer (some (at_ gd 1)))) (.one .mp) (fun x w => semS Tryz.prog (Instr.lookup 123 (.map x) (.string name) false) (.one .ptr) K w) w := by
  refine ld1_i (l := .mp) (o := 1) (some L.m) h.var rfl ?_
  refine look_i (lf := .ptr) _ h.map (show Value.string name = kStr name.toList by rw [kStr, str_of]) ?_ hK
  cases D.at? name.toList <;> rfl
theorem area_at {name : List UInt8} {i : Nat} (h : DriveAt w gd L D) (hi : D.at? name = some i) : AreaAt w (L.al.getD i default) (D.ar i) := h.areas i (S.Drv.at?_lt hi)
theorem AreaAt.rd {a : AL} {A : S.Area} (h : AreaAt w a A) : Bts w (bSl a.bb A.b.length) A.b :=
  ⟨by simp [bSl], Nat.le_refl _, (fun h => by cases h), fun x hx i v hv => by
    obtain rfl : at_ a.bb 0 = x := Option.some.inj hx
    rw [at_add, Nat.zero_add]; exact h.row.cell hv⟩
theorem dSize_s {name : ByteArray} {K : Int → Int → World → Prop} (h : DriveAt w gd L D) (hK : K (D.size name.toList).1 (D.size name.toList).2 w) :
    callS Tryz.prog 31 #[.pointer (some (at_ gd 0)), .string name] [.one (.int .i64), .one (.int .i64)] K w := by
  refine f31_ok ?_
  unfold f31
  refine nil_i rfl ?_
  refine area_look h ?_
  refine ptrNe_i ?_
  unfold S.Drv.size at hK
  cases hi : D.at? name.toList with
  | none => rw [hi] at hK; exact hK
  | some i =>
    rw [hi] at hK
    have ha := area_at h hi
    refine cond_i (fun _ => ?_) (fun h => by cases h)
    refine nil_i rfl ?_
    exact ld1_i (l := .slc) (o := 0) (bSl (L.al.getD i default).bb (D.ar i).b.length) ha.var rfl hK
theorem dSectors_s {off len : Int} {K : Int → Int → World → Prop} (h0 : 0 ≤ off) (h1 : 0 ≤ len) (h2 : off + len ≤ 1048576) (hK : K (off / 64) (S.nS off len) w) : callS Tryz.prog 60 #[.int .i64 off, .int .i64 len] [.one (.int .i64), .one (.int .i64)] K w := by
  refine f60_ok ?_
  unfold f60
  have e1 : IntKind.wrap .i64 (Int.tdiv off 64) = off / 64 := by rw [Int.tdiv_eq_ediv_of_nonneg h0, wrap_i64 (by omega) (by omega)]
  unfold S.nS at hK
  refine cond_i (fun h => ?_) (fun h => ?_)
  · rw [if_pos (by simpa using h)] at hK
    rw [e1]; exact hK
  · rw [if_neg (by simpa using h)] at hK
    have hl : len ≠ 0 := by simpa using h
    have e2 : IntKind.wrap .i64 (IntKind.wrap .i64 (off + len) - 1) = off + len - 1 := by rw [wrap_i64 (x := off + len) (by omega) (by omega), wrap_i64 (by omega) (by omega)]
    have e3 : IntKind.wrap .i64 (Int.tdiv (off + len - 1) 64) = (off + len - 1) / 64 := by rw [Int.tdiv_eq_ediv_of_nonneg (by omega), wrap_i64 (by omega) (by omega)]
    rw [e1, e2, e3, wrap_i64 (x := (off + len - 1) / 64 - off / 64) (by omega) (by omega), wrap_i64 (x := (off + len - 1) / 64 - off / 64 + 1) (by omega) (by omega)]
    exact hK
theorem dFind_s {name : ByteArray} {off len : Int} {K : Option Addr → Int → World → Prop} (h : DriveAt w gd L D) (ho : S.I64 off) (hl : S.I64 len)
    (hK : K (if D.err name.toList off len = 0 then (D.at? name.toList).map (fun i => at_ (L.al.getD i default).g 0) else none) (D.err name.toList off len) w) :
    callS Tryz.prog 59 #[.pointer (some (at_ gd 0)), .string name, .int .i64 off, .int .i64 len] [.one .ptr, .one (.int .i64)] K w := by
  refine f59_ok ?_
  unfold f59
  refine nil_i rfl ?_
  refine area_look h ?_
  refine nil_i rfl ?_
  refine ld1_i (l := .bool) (o := 4) D.down h.var rfl ?_
  unfold S.Drv.err at hK
  refine cond_i (fun hd => ?_) (fun hd => ?_)
  · rw [hd] at hK; exact hK
  · rw [hd] at hK
    refine ptrEq_i ?_
    cases hi : D.at? name.toList with
    | none => rw [hi] at hK; exact hK
    | some i =>
      rw [hi] at hK
      have ha := area_at h hi
      refine cond_i (fun h => by cases h) (fun _ => ?_)
      refine nil_i rfl ?_
      refine ld1_i (l := .slc) (o := 0) (bSl (L.al.getD i default).bb (D.ar i).b.length) ha.var rfl ?_
      have hal := ha.len
      refine within_s ho hl ⟨by simp only; omega, by simp only; omega⟩ ?_
      simp only [Bool.false_eq_true, if_false] at hK
      refine cond_i (fun hw => ?_) (fun hw => ?_)
      · have hw' : S.within off len ((D.ar i).b.length : Int) = false := by simpa using hw
        rw [hw'] at hK; exact hK
      · have hw' : S.within off len ((D.ar i).b.length : Int) = true := by simpa using hw
        rw [hw'] at hK; exact hK
end
end Go.Proofs.YteopoodhclljjaaGreatDoor

/-! Drv10b -/
namespace Go.S
open Go Go.Eng
theorem over_get {old bs : List UInt8} {off : Nat} {p : Nat → Bool} {i : Nat} (h : i < old.length) : (over old bs off p)[i]? = some (if off ≤ i ∧ i < off + bs.length ∧ p (i / 64 - off / 64) then bs.getD (i - off) 0 else old.getD i 0) := by
  simp [over, h]
/-- All of it. -/
theorem over_all {old bs : List UInt8} {off : Nat} (h : off + bs.length ≤ old.length) : over old bs off (fun _ => true) = old.take off ++ bs ++ old.drop (off + bs.length) := by
  apply List.ext_getElem?
  intro i
  by_cases hi : i < old.length
  · rw [over_get hi]
    by_cases h1 : i < off
    · rw [if_neg (by omega), List.append_assoc, List.getElem?_append_left (by simp; omega), List.getElem?_take, if_pos h1]
      simp [hi]
    · by_cases h2 : i < off + bs.length
      · rw [if_pos ⟨by omega, h2, rfl⟩, List.append_assoc, List.getElem?_append_right (by simp; omega), List.getElem?_append_left (by simp; omega)]
        have : i - (old.take off).length = i - off := by simp; omega
        rw [this]
        simp [show i - off < bs.length by omega]
      · rw [if_neg (by omega), List.getElem?_append_right (by simp; omega), List.getElem?_drop]
        have : off + bs.length + (i - (old.take off ++ bs).length) = i := by simp; omega
        rw [this]
        simp [hi]
  · rw [List.getElem?_eq_none (by rw [over_length]; omega), List.getElem?_eq_none (by simp; omega)]
/-- One sector more. -/
theorem over_step {old bs : List UInt8} {off k a b : Nat} {p : Nat → Bool} (h : off + bs.length ≤ old.length) (ha : a = max off ((off / 64 + k) * 64)) (hb : b = min (off + bs.length) ((off / 64 + k + 1) * 64)) (hab : a ≤ b) (hk : p k = true) :
    over old bs off (fun j => decide (j < k + 1) && p j) = (over old bs off (fun j => decide (j < k) && p j)).take a ++ (bs.drop (a - off)).take (b - a) ++ (over old bs off (fun j => decide (j < k) && p j)).drop (a + min (bs.drop (a - off)).length (b - a)) := by
  have hl := over_length old bs off (fun j => decide (j < k) && p j)
  have hm : min (bs.drop (a - off)).length (b - a) = b - a := by simp; omega
  rw [hm]
  apply List.ext_getElem?
  intro i
  by_cases hi : i < old.length
  · rw [over_get hi]
    by_cases h1 : i < a
    · rw [List.append_assoc, List.getElem?_append_left (by simp [hl]; omega), List.getElem?_take, if_pos h1, over_get hi]
      congr 2
      have : i / 64 - off / 64 ≠ k ∨ ¬ (off ≤ i) := by omega
      simp only [Bool.and_eq_true, decide_eq_true_eq, eq_iff_iff]
      constructor
      · rintro ⟨q1, q2, q3, q4⟩; exact ⟨q1, q2, by omega, q4⟩
      · rintro ⟨q1, q2, q3, q4⟩; exact ⟨q1, q2, by omega, q4⟩
    · by_cases h2 : i < b
      · have hik : i / 64 - off / 64 = k := by omega
        rw [if_pos ⟨by omega, by omega, by rw [hik]; simp [hk]⟩, List.append_assoc, List.getElem?_append_right (by simp [hl]; omega), List.getElem?_append_left (by simp [hl]; omega)]
        have : i - ((over old bs off (fun j => decide (j < k) && p j)).take a).length = i - a := by simp [hl]; omega
        rw [this, List.getElem?_take, if_pos (by omega), List.getElem?_drop, show a - off + (i - a) = i - off by omega]
        simp [show i - off < bs.length by omega]
      · have hlen2 : ((over old bs off (fun j => decide (j < k) && p j)).take a ++ (bs.drop (a - off)).take (b - a)).length = b := by simp [hl]; omega
        rw [List.getElem?_append_right (by omega), hlen2, List.getElem?_drop, show a + (b - a) + (i - b) = i by omega, over_get hi]
        congr 2
        have : i / 64 - off / 64 ≠ k ∨ ¬ (i < off + bs.length) := by omega
        simp only [Bool.and_eq_true, decide_eq_true_eq, eq_iff_iff]
        constructor
        · rintro ⟨q1, q2, q3, q4⟩; exact ⟨q1, q2, by omega, q4⟩
        · rintro ⟨q1, q2, q3, q4⟩; exact ⟨q1, q2, by omega, q4⟩
  · rw [List.getElem?_eq_none (by rw [over_length]; omega), List.getElem?_eq_none (by simp [hl]; omega)]
theorem over_skip {old bs : List UInt8} {off k : Nat} {p : Nat → Bool} (hk : p k = false) : over old bs off (fun j => decide (j < k + 1) && p j) = over old bs off (fun j => decide (j < k) && p j) := by
  congr 1
  funext j
  by_cases h : j = k
  · subst h; simp [hk]
  · congr 1; simp; omega
theorem over_none {old bs : List UInt8} {off : Nat} {p : Nat → Bool} : over old bs off (fun j => decide (j < 0) && p j) = old := by
  apply List.ext_getElem?
  intro i
  by_cases hi : i < old.length
  · rw [over_get hi]; simp [hi]
  · rw [List.getElem?_eq_none (by rw [over_length]; omega), List.getElem?_eq_none (by omega)]
theorem over_congr {old bs : List UInt8} {off : Nat} {p q : Nat → Bool} (h : ∀ i, off ≤ i → i < off + bs.length → p (i / 64 - off / 64) = q (i / 64 - off / 64)) : over old bs off p = over old bs off q := by
  unfold over
  apply List.map_congr_left
  intro i _
  congr 1
  simp only [eq_iff_iff]
  constructor
  · rintro ⟨q1, q2, q3⟩; exact ⟨q1, q2, by rw [← h i q1 q2]; exact q3⟩
  · rintro ⟨q1, q2, q3⟩; exact ⟨q1, q2, by rw [h i q1 q2]; exact q3⟩
theorem Drv.set_set (D : Drv) (i : Nat) (a b : Area) : (D.set i a).set i b = D.set i b := by simp [Drv.set]
theorem Drv.ar_set {D : Drv} {i : Nat} (h : i < D.as.length) (a : Area) : (D.set i a).ar i = a := by simp [Drv.set, Drv.ar, h]
theorem Drv.set_self {D : Drv} {i : Nat} (h : i < D.as.length) : D.set i (D.ar i) = D := by
  unfold Drv.set Drv.ar
  have : D.as.set i (D.as.getD i default) = D.as := by
    apply List.ext_getElem?
    intro j
    rw [List.getElem?_set]
    split
    · rename_i hij; subst hij; simp [h]
    · rfl
  rw [this]
theorem Drv.err_ok {D : Drv} {name : List UInt8} {off len : Int} (h : D.err name off len = 0) : D.down = false ∧ ∃ i, D.at? name = some i ∧ within off len (D.ar i).b.length = true := by
  unfold Drv.err at h
  cases hd : D.down with
  | true => rw [hd] at h; cases h
  | false =>
    rw [hd] at h
    refine ⟨rfl, ?_⟩
    cases hi : D.at? name with
    | none => rw [hi] at h; cases h
    | some i =>
      rw [hi] at h
      refine ⟨i, rfl, ?_⟩
      cases hw : within off len (D.ar i).b.length with
      | true => rfl
      | false => simp [hw] at h
end Go.S
namespace Go.Proofs.YteopoodhclljjaaGreatDoor
open Go Go.Eng
section
variable {w : World} {gd : Nat} {L : Lay} {D : S.Drv}
theorem AreaAt.setB {w' : World} {a : AL} {A : S.Area} {b' : List UInt8} (h : AreaAt w a A) (f : Fr (fun k => k = a.bb) w w') (v : Var w' a.bb (b'.map vB)) (hl : b'.length = A.b.length) : AreaAt w' a (A.setB b') :=
  ⟨by have := h.var.fr f h.ne.1; rw [S.Area.setB_b, hl]; exact this, v, h.bad.fr f (fun e => h.ne.2.2 e.symm), h.ne, by rw [S.Area.setB_b, hl]; exact h.len⟩
theorem bSl_cut {bb n lo hi : Nat} (h : lo < n) : (bSl bb n).cut 1 lo hi = ⟨some (at_ bb lo), hi - lo, n - lo⟩ := by
  unfold Sl.cut bSl
  simp only [if_neg (show ¬ n = lo by omega), Option.map_some, Nat.mul_one, at_add, Nat.zero_add]
theorem Bts.cutAll {s : Sl} {bs : List UInt8} (h : Bts w s bs) {l : Nat} (hl : l ≤ bs.length) : Bts w (s.cut 1 l s.len) (bs.drop l) := by
  have := Bts.cut h (l := l) (hi := s.len) (by have := Bts.len h; omega) (by have := Bts.len h; omega)
  rwa [List.take_of_length_le (by have := Bts.len h; simp; omega)] at this
theorem dRead_s {name : ByteArray} {off len : Int} {K : Sl → Int → World → Prop} (h : DriveAt w gd L D) (ho : S.I64 off) (hl : S.I64 len)
    (hK : ∀ v w', Fr (fun k => k = gd) w w' → DriveAt w' gd L (D.read name.toList off len).2.2 → OwnB w' w.heap.size v (D.read name.toList off len).1 → K v (D.read name.toList off len).2.1 w') :
    callS Tryz.prog 32 #[.pointer (some (at_ gd 0)), .string name, .int .i64 off, .int .i64 len] [.one .slc, .one (.int .i64)] K w := by
  refine f32_ok ?_
  unfold f32
  refine dFind_s h ho hl ?_
  unfold S.Drv.read at hK
  by_cases he : D.err name.toList off len = 0
  · obtain ⟨hd, i, hi, hw⟩ := S.Drv.err_ok he
    rw [he, if_pos rfl, hi]
    rw [if_neg (by simp [he]), hi] at hK
    simp only [Option.getD_some, Option.map_some] at hK ⊢
    have hA := area_at h hi
    have hil := S.Drv.at?_lt hi
    have hal := hA.len
    obtain ⟨q1, q2, q3, q4, q5⟩ := S.within_iff.1 hw
    refine cond_i (fun h => by cases h) (fun _ => ?_)
    refine dSectors_s q1 q2 (by omega) ?_
    have hn : S.nS off len ≤ 20000 := by unfold S.nS; split <;> omega
    have hn0 : 0 ≤ S.nS off len := by unfold S.nS; split <;> omega
    refine loop_i (fun (x : Int) w' => w' = w ∧ ∃ k : Nat, (k : Int) ≤ S.nS off len ∧ x = k ∧ ∀ j, j < k → (D.ar i).bad (off / 64 + (j : Int)) = false) (fun x _ => (S.nS off len - x).toNat) ⟨rfl, 0, by omega, rfl, fun j hj => by omega⟩ ?_
    rintro x w1 again ⟨rfl, k, hk, rfl, hb⟩ hag
    refine cond_i (fun hlt => ?_) (fun hge => ?_)
    · have hlt' : (k : Int) < S.nS off len := by simpa using hlt
      refine nil_i rfl ?_
      refine ld1_i (l := .mp) (o := 1) (some (L.al.getD i default).mb) hA.var rfl ?_
      rw [wrap_i64 (x := off / 64 + (k : Int)) (by omega) (by omega)]
      refine look_i (lf := .bool) ((D.ar i).bad (off / 64 + (k : Int))) hA.bad rfl (by cases (D.ar i).bad (off / 64 + (k : Int)) <;> rfl) ?_
      refine cond_i (fun hbad => ?_) (fun hgood => ?_)
      · have : (D.ar i).badIn off len = true := by
          unfold S.Area.badIn
          rw [List.any_eq_true]
          exact ⟨k, by simp; omega, hbad⟩
        rw [if_pos this] at hK
        exact hK Sl.nil _ (Fr.refl _ _) h (Own.nilSl _ _ _)
      · refine hag _ _ ⟨rfl, k + 1, by omega, by rw [wrap_i64 (by omega) (by omega)]; omega, fun j hj => ?_⟩ (by rw [wrap_i64 (by omega) (by omega)]; omega)
        by_cases hjk : j = k
        · subst hjk; exact hgood
        · exact hb j (by omega)
    · have hkn : (k : Int) = S.nS off len := by have : ¬ (k : Int) < S.nS off len := by simpa using hge
                                                omega
      have : (D.ar i).badIn off len = false := by
        unfold S.Area.badIn
        rw [Bool.eq_false_iff]
        intro hx
        obtain ⟨j, hj, hbj⟩ := List.any_eq_true.1 hx
        rw [hb j (by simp at hj; omega)] at hbj; cases hbj
      rw [if_neg (by rw [this]; exact Bool.false_ne_true)] at hK
      clear hag hge
      have hC := h.okC
      have hB := h.okB
      refine nil_i rfl ?_
      refine ld1_i (l := .int .i64) (o := 5) D.count h.var rfl ?_
      refine nil_i rfl ?_
      refine st1_i (o := 5) h.var (by simp [dCells]) rfl fun w2 f2 v2 => ?_
      refine nil_i rfl ?_
      refine ld1_i (l := .int .i64) (o := 6) D.bytes v2 rfl ?_
      refine nil_i rfl ?_
      refine st1_i (o := 6) v2 (by simp [dCells]) rfl fun w3 f3 v3 => ?_
      rw [wrap_i64 (x := D.count + 1) (by omega) (by omega), wrap_i64 (x := D.bytes + len) (by omega) (by omega)] at v3
      have f13 := f2.trans' f3
      have h3 := h.upVar (D' := { D with count := S.cap60 (D.count + 1), bytes := S.cap60 (D.bytes + len) }) f13 v3 rfl rfl h.okL (by simp only [S.cap60]; split <;> omega) (by simp only [S.cap60]; split <;> omega)
      have hA3 : AreaAt w3 (L.al.getD i default) (D.ar i) := h3.areas i hil
      refine nil_i rfl ?_
      refine ld1_i (l := .slc) (o := 0) (bSl (L.al.getD i default).bb (D.ar i).b.length) hA3.var rfl ?_
      rw [wrap_i64 (x := off + len) (by omega) (by omega)]
      refine sl2_i (by omega) (by omega) (by simp only; omega) ?_
      have hc := Bts.cut hA3.rd (l := off.toNat) (hi := (off + len).toNat) (by omega) (by omega)
      rw [show (off + len).toNat - off.toNat = len.toNat by omega] at hc
      refine clone_s hc (by simp; omega) fun v w4 e4 o4 => ?_
      exact hK v w4 (f13.then e4) (h3.ext e4) (o4.base f13.size)
  · rw [if_neg he]
    rw [if_pos he] at hK
    refine cond_i (fun _ => ?_) (fun h => by simp at h; exact absurd h he)
    exact hK Sl.nil w (Fr.refl _ _) h (Own.nilSl _ _ _)
/-- 'copy(a.b[lo:hi], x)' -/
theorem copyArea_i {w : World} {a : AL} {A : S.Area} {x : Sl} {ds : List UInt8} {lo hi : Nat} {K : Int → World → Prop} (hA : AreaAt w a A) (h1 : lo ≤ hi) (h2 : hi ≤ A.b.length) (hx : Bts w x ds)
    (hK : ∀ n w', Fr (fun k => k = a.bb) w w' → AreaAt w' a (A.setB (A.b.take lo ++ ds.take (hi - lo) ++ A.b.drop (lo + min ds.length (hi - lo)))) → K n w') :
    semS Tryz.prog (Builtin.copy_ #[22, 22] 3 #[.slice ((bSl a.bb A.b.length).cut 1 lo hi).a ((bSl a.bb A.b.length).cut 1 lo hi).len ((bSl a.bb A.b.length).cut 1 lo hi).cap, .slice x.a x.len x.cap]) (.one (.int .i64)) K w := by
  have hcl : ((bSl a.bb A.b.length).cut 1 lo hi).len = hi - lo := rfl
  refine copyV_i' (P := Tryz.prog) (t := 22) (ty := 3) (e := 5) (o := lo) (bb := a.bb) (cells := A.b.map vB) (dst := (bSl a.bb A.b.length).cut 1 lo hi) hA.row (fun hne => ?_) (by rw [hcl, List.length_map]; omega) hx bytes_one fun w' f v => hK _ w' f (hA.setB f ?_ ?_)
  · rw [hcl] at hne
    rw [bSl_cut (by omega)]
  · rw [List.map_append, List.map_append, List.map_take, List.map_drop, List.map_take]
    rw [hcl, List.length_map] at v
    exact v
  · simp only [List.length_append, List.length_take, List.length_drop]; omega
section
variable {i : Nat} {off : Int} {p : Sl} {bs : List UInt8}
theorem setB_len (A : S.Area) (b : List UInt8) : (A.setB b).b.length = b.length := rfl
/-- One sector of a write that is torn. -/
theorem torn_i {w : World} {k : Nat} {q : Nat → Bool} {K : World → Prop} (h1 : DriveAt w gd L (D.set i ((D.ar i).setB (S.over (D.ar i).b bs off.toNat (fun j => decide (j < k) && q j))))) (hil : i < D.as.length) (h0 : 0 ≤ off) (hfit : off.toNat + bs.length ≤ (D.ar i).b.length) (hal : (D.ar i).b.length ≤ 1048576) (hbn : 0 < bs.length) (hk : (off.toNat / 64 + k) * 64 < off.toNat + bs.length) (hq : q k = true) (hp : Bts w p bs)
    (hK : ∀ w', Fr (fun k => k = (L.al.getD i default).bb) w w' → DriveAt w' gd L (D.set i ((D.ar i).setB (S.over (D.ar i).b bs off.toNat (fun j => decide (j < k + 1) && q j)))) → K w') :
    (drawS w fun C w =>
            nilS (some (at_ (L.al.getD i default).g 0)) fun a22 =>
            semQ Tryz.prog C (Instr.loadAt 22 (.pointer (some (a22.add 0)))) (.one .slc) (fun x23 =>
            semQ Tryz.prog C (Instr.sliceAt 22 (.slice x23.a x23.len x23.cap) (some (.int .i64 (if (IntKind.wrap .i64 ((IntKind.wrap .i64 (off / 64 + k)) * 64)) > off then IntKind.wrap .i64 ((IntKind.wrap .i64 (off / 64 + k)) * 64) else off))) (some (.int .i64 (if (IntKind.wrap .i64 ((IntKind.wrap .i64 ((IntKind.wrap .i64 (off / 64 + k)) + 1)) * 64)) < (IntKind.wrap .i64 (off + (bs.length : Int))) then IntKind.wrap .i64 ((IntKind.wrap .i64 ((IntKind.wrap .i64 (off / 64 + k)) + 1)) * 64) else IntKind.wrap .i64 (off + (bs.length : Int))))) none) (.one .slc) (fun x24 =>
            semQ Tryz.prog C (Instr.sliceAt 22 (.slice p.a p.len p.cap) (some (.int .i64 (IntKind.wrap .i64 ((if (IntKind.wrap .i64 ((IntKind.wrap .i64 (off / 64 + k)) * 64)) > off then IntKind.wrap .i64 ((IntKind.wrap .i64 (off / 64 + k)) * 64) else off) - off)))) none none) (.one .slc) (fun x25 =>
            semS Tryz.prog (Builtin.copy_ #[22, 22] 3 #[(.slice x24.a x24.len x24.cap), (.slice x25.a x25.len x25.cap)]) (.one (.int .i64)) (fun r26 w => K w) w)))) := by
  have hil1 : i < (D.set i ((D.ar i).setB (S.over (D.ar i).b bs off.toNat (fun j => decide (j < k) && q j)))).as.length := by simpa [S.Drv.set] using hil
  have hA1 := h1.areas i hil1
  rw [S.Drv.ar_set hil] at hA1
  have hlen1 : (S.over (D.ar i).b bs off.toNat (fun j => decide (j < k) && q j)).length = (D.ar i).b.length := S.over_length _ _ _ _
  have hpl := Bts.len hp
  obtain ⟨fr, hfr⟩ : ∃ fr : Nat, fr = max off.toNat ((off.toNat / 64 + k) * 64) := ⟨_, rfl⟩
  obtain ⟨to, hto⟩ : ∃ to : Nat, to = min (off.toNat + bs.length) ((off.toNat / 64 + k + 1) * 64) := ⟨_, rfl⟩
  have hft : fr < to := by omega
  have e1 : (if IntKind.wrap .i64 (IntKind.wrap .i64 (off / 64 + (k : Int)) * 64) > off then IntKind.wrap .i64 (IntKind.wrap .i64 (off / 64 + (k : Int)) * 64) else off) = (fr : Int) := by
    rw [wrap_i64 (x := off / 64 + (k : Int)) (by omega) (by omega), wrap_i64 (x := (off / 64 + (k : Int)) * 64) (by omega) (by omega)]
    split <;> omega
  have e2 : (if IntKind.wrap .i64 (IntKind.wrap .i64 (IntKind.wrap .i64 (off / 64 + (k : Int)) + 1) * 64) < IntKind.wrap .i64 (off + (bs.length : Int)) then IntKind.wrap .i64 (IntKind.wrap .i64 (IntKind.wrap .i64 (off / 64 + (k : Int)) + 1) * 64) else IntKind.wrap .i64 (off + (bs.length : Int))) = (to : Int) := by
    rw [wrap_i64 (x := off / 64 + (k : Int)) (by omega) (by omega), wrap_i64 (x := off / 64 + (k : Int) + 1) (by omega) (by omega), wrap_i64 (x := (off / 64 + (k : Int) + 1) * 64) (by omega) (by omega), wrap_i64 (x := off + (bs.length : Int)) (by omega) (by omega)]
    split <;> omega
  have e3 : IntKind.wrap .i64 ((fr : Int) - off) = (fr : Int) - off := wrap_i64 (by omega) (by omega)
  rw [e1, e2, e3]
  refine ⟨fun x => Ext w x, Ext.drew _, ?_⟩
  refine nil_i rfl ?_
  refine ld1Q_i (l := .slc) (o := 0) (bSl (L.al.getD i default).bb (S.over (D.ar i).b bs off.toNat (fun j => decide (j < k) && q j)).length) (fun x hx => (hA1.var.ext hx)) rfl ?_
  refine sl2Q_i (by omega) (by omega) (show (to : Int) ≤ ((S.over (D.ar i).b bs off.toNat (fun j => decide (j < k) && q j)).length : Int) by omega) ?_
  refine slLoQ_i (by omega) (by omega) ?_
  have hA2 := hA1.fr (Ext.drew w) (fun _ _ => id)
  have hc := Bts.cutAll (hp.ext (Ext.drew w)) (l := ((fr : Int) - off).toNat) (by omega)
  rw [show ((fr : Int) - off).toNat = fr - off.toNat by omega] at hc ⊢
  simp only [Int.toNat_natCast]
  refine copyArea_i (A := (D.ar i).setB (S.over (D.ar i).b bs off.toNat (fun j => decide (j < k) && q j))) hA2 (by omega) (by rw [setB_len, hlen1]; omega) hc fun n w3 f3 hA3 => ?_
  rw [S.Area.setB_setB, S.Area.setB_b, ← S.over_step hfit hfr hto (by omega) hq] at hA3
  have h3 := (h1.ext (Ext.drew w)).upArea hil1 (f3.mono fun k _ hk => .inl hk) hA3 (by rw [S.Drv.ar_set hil]; rfl) (by rw [S.Drv.ar_set hil, setB_len, setB_len, S.over_length, S.over_length])
  rw [S.Drv.set_set] at h3
  exact hK w3 ((Ext.drew w).fr.trans f3 fun k _ hk => hk) h3
end
theorem dWrite_s {name : ByteArray} {off : Int} {p : Sl} {bs : List UInt8} {K : Int → World → Prop} (h : DriveAt w gd L D) (ho : S.I64 off) (hp : Bts w p bs) (hbl : bs.length ≤ 68719476736) (hsep : bs ≠ [] → ∀ a, p.a = some a → ¬ L.inD gd a.block)
    (hK : ∀ w', Fr (L.inD gd) w w' → DriveAt w' gd L (D.write name.toList off bs).2 → K (D.write name.toList off bs).1 w') :
    callS Tryz.prog 27 #[.pointer (some (at_ gd 0)), .string name, .int .i64 off, .slice p.a p.len p.cap] [.one (.int .i64)] K w := by
  refine f27_ok ?_
  unfold f27
  have hpl := Bts.len hp
  refine dFind_s h ho ⟨by omega, by omega⟩ ?_
  rw [show ((p.len : Nat) : Int) = ((bs.length : Nat) : Int) by rw [hpl]]
  unfold S.Drv.write at hK
  by_cases he : D.err name.toList off bs.length = 0
  · obtain ⟨hd, i, hi, hw⟩ := S.Drv.err_ok he
    rw [he, if_pos rfl, hi]
    rw [if_neg (by simp [he]), hi] at hK
    simp only [Option.getD_some, Option.map_some] at hK ⊢
    have hA := area_at h hi
    have hil := S.Drv.at?_lt hi
    have hal := hA.len
    have hm := al_mem (L := L) (i := i) (by rw [h.len]; exact hil)
    have inbb : L.inD gd (L.al.getD i default).bb := .inr (.inr (.inr (.inr ⟨_, hm, .inr (.inl rfl)⟩)))
    obtain ⟨q1, q2, q3, q4, q5⟩ := S.within_iff.1 hw
    have hfit : off.toNat + bs.length ≤ (D.ar i).b.length := by omega
    have hL := h.okL
    refine cond_i (fun h => by cases h) (fun _ => ?_)
    refine nil_i rfl ?_
    refine ld1_i (l := .int .i64) (o := 2) D.left h.var rfl ?_
    refine cond_i (fun hne => ?_) (fun heq => ?_)
    · have hne' : D.left ≠ 0 := by simpa using hne
      rw [if_pos hne'] at hK
      refine nil_i rfl ?_
      refine ld1_i (l := .int .i64) (o := 2) D.left h.var rfl ?_
      refine nil_i rfl ?_
      refine st1_i (o := 2) h.var (by simp [dCells]) rfl fun w1 f1 v1 => ?_
      rw [wrap_i64 (x := D.left - 1) (by omega) (by omega)] at v1
      have hmx : (if (-1) > D.left - 1 then (-1) else D.left - 1) = max (D.left - 1) (-1) := by omega
      rw [hmx] at v1
      have h1 := h.upVar (D' := { D with left := max (D.left - 1) (-1) }) f1 v1 rfl rfl (by simp only; omega) h.okC h.okB
      have hA1 : AreaAt w1 (L.al.getD i default) (D.ar i) := h1.areas i hil
      refine nil_i rfl ?_
      refine ld1_i (l := .slc) (o := 0) (bSl (L.al.getD i default).bb (D.ar i).b.length) hA1.var rfl ?_
      refine slLo_i (by omega) (show off ≤ ((D.ar i).b.length : Int) by omega) ?_
      have hp1 : Bts w1 p bs := rd_fr_ne hp f1 fun hne a ha e => hsep (by simpa using hne) a ha (.inl e)
      refine copyArea_i (hi := (D.ar i).b.length) hA1 (by omega) (Nat.le_refl _) hp1 fun n w2 f2 hA2 => ?_
      · rw [List.take_of_length_le (show bs.length ≤ (D.ar i).b.length - off.toNat by omega), show min bs.length ((D.ar i).b.length - off.toNat) = bs.length by omega, ← S.over_all hfit] at hA2
        have h2 := h1.upArea hil (f2.mono fun k _ hk => .inl hk) hA2 rfl (by rw [setB_len, S.over_length]; rfl)
        exact hK w2 ((f1.mono fun k _ hk => .inl hk).trans f2 fun k _ hk => by rw [hk]; exact inbb) h2
    · have heq' : D.left = 0 := by simpa using heq
      rw [if_neg (by simp [heq'])] at hK
      have hkl : L.ks.len = D.keep.length := by have := h.keep.len; simp at this; omega
      refine dSectors_s q1 (by omega) (by omega) ?_
      refine nil_i rfl ?_
      refine ld1_i (l := .slc) (o := 3) L.ks h.var rfl ?_
      have hn : S.nS off (bs.length : Int) ≤ 20000 := by unfold S.nS; split <;> omega
      have hn0 : 0 ≤ S.nS off (bs.length : Int) := by unfold S.nS; split <;> omega
      have hmn : (if (L.ks.len : Int) < S.nS off (bs.length : Int) then (L.ks.len : Int) else S.nS off (bs.length : Int)) = ((min D.keep.length (S.nS off (bs.length : Int)).toNat : Nat) : Int) := by rw [hkl]; split <;> omega
      rw [hmn]
      refine loop_i (fun (x : Int) w' => ∃ k : Nat, k ≤ min D.keep.length (S.nS off (bs.length : Int)).toNat ∧ x = k ∧ Fr (L.inD gd) w w' ∧ DriveAt w' gd L (D.set i ((D.ar i).setB (S.over (D.ar i).b bs off.toNat (fun j => decide (j < k) && D.keep.getD j false))))) (fun x _ => min D.keep.length (S.nS off (bs.length : Int)).toNat - x.toNat) ⟨0, by omega, rfl, Fr.refl _ _, ?_⟩ ?_
      · rw [S.over_none, S.Area.setB_self, S.Drv.set_self hil]; exact h
      · rintro x w1 again ⟨k, hk, rfl, f1, h1⟩ hag
        refine cond_i (fun hlt => ?_) (fun hge => ?_)
        · have hlt' : k < min D.keep.length (S.nS off (bs.length : Int)).toNat := by have := of_decide_eq_true hlt; omega
          have hbne : (bs.length : Int) ≠ 0 := fun e => by simp [S.nS, e] at hlt'
          have hns : S.nS off (bs.length : Int) = (off + bs.length - 1) / 64 - off / 64 + 1 := by unfold S.nS; rw [if_neg hbne]
          have hp1 : Bts w1 p bs := rd_fr_ne hp f1 fun hne a ha e => hsep (by simpa using hne) a ha e
          have hkeep1 : Rd w1 L.ks 1 (D.keep.map Value.bool) := h1.keep
          refine nil_i rfl ?_
          refine ld1_i (l := .slc) (o := 3) L.ks h1.var rfl ?_
          refine elem_i (l := .bool) (x := D.keep.getD k false) hkeep1 (by omega) (by omega) (by rw [Int.toNat_natCast, List.getElem?_map]; simp [show k < D.keep.length by omega, Lf.enc]) ?_
          refine cond_i (fun hkk => ?_) (fun hkk => ?_)
          · refine torn_i (K := fun w => again (IntKind.wrap .i64 ((k : Int) + 1)) w) h1 hil q1 hfit hal (by omega) (by omega) hkk hp1 fun w3 f3 h3 => ?_
            refine hag _ w3 ⟨k + 1, by omega, by rw [wrap_i64 (by omega) (by omega)]; omega, f1.trans f3 fun k _ hk => by rw [hk]; exact inbb, h3⟩ (by rw [wrap_i64 (by omega) (by omega)]; omega)
          · refine hag _ w1 ⟨k + 1, by omega, by rw [wrap_i64 (by omega) (by omega)]; omega, f1, by rw [S.over_skip hkk]; exact h1⟩ (by rw [wrap_i64 (by omega) (by omega)]; omega)
        · have hkn : k = min D.keep.length (S.nS off (bs.length : Int)).toNat := by have := of_decide_eq_false hge; omega
          have hov : S.over (D.ar i).b bs off.toNat (fun j => decide (j < k) && D.keep.getD j false) = S.over (D.ar i).b bs off.toNat fun k => D.keep.getD k false := by
            apply S.over_congr
            intro j h1 h2
            by_cases hj : j / 64 - off.toNat / 64 < k
            · simp [hj]
            · have hge2 : D.keep.length ≤ j / 64 - off.toNat / 64 := by
                have hbne : (bs.length : Int) ≠ 0 := by omega
                have hns : S.nS off (bs.length : Int) = (off + bs.length - 1) / 64 - off / 64 + 1 := by unfold S.nS; rw [if_neg hbne]
                omega
              simp [hj, hge2]
          rw [hov] at h1
          refine nil_i rfl ?_
          refine st1_i (o := 4) h1.var (by simp [dCells]) rfl fun w2 f2 v2 => ?_
          refine hK w2 (f1.trans f2 fun k _ hk => .inl hk) ?_
          exact h1.upVar f2 v2 rfl rfl h1.okL h1.okC h1.okB
  · rw [if_neg he]
    rw [if_pos he] at hK
    refine cond_i (fun _ => ?_) (fun h => by simp at h; exact absurd h he)
    exact hK w (Fr.refl _ _) h
end
end Go.Proofs.YteopoodhclljjaaGreatDoor

/-! Drv10c -/
namespace Go.S
open Go Go.Eng
theorem xorAt_length (old xs : List UInt8) (off : Nat) : (xorAt old xs off).length = old.length := by simp [xorAt]
theorem xorAt_get {old xs : List UInt8} {off i : Nat} (h : i < old.length) : (xorAt old xs off)[i]? = some (if off ≤ i ∧ i < off + xs.length then old.getD i 0 ^^^ xs.getD (i - off) 0 else old.getD i 0) := by
  simp [xorAt, h]
theorem xorAt_nil (old : List UInt8) (off : Nat) : xorAt old [] off = old := by
  apply List.ext_getElem?
  intro i
  by_cases hi : i < old.length
  · rw [xorAt_get hi, if_neg (by simp only [List.length_nil]; omega)]; simp [hi]
  · rw [List.getElem?_eq_none (by rw [xorAt_length]; omega), List.getElem?_eq_none (by omega)]
theorem xorAt_step {old xs : List UInt8} {off k : Nat} (h : off + xs.length ≤ old.length) (hk : k < xs.length) : xorAt old (xs.take (k + 1)) off = (xorAt old (xs.take k) off).set (off + k) (old.getD (off + k) 0 ^^^ xs.getD k 0) := by
  apply List.ext_getElem?
  intro i
  by_cases hi : i < old.length
  · rw [xorAt_get hi, List.getElem?_set]
    by_cases h1 : off + k = i
    · subst h1
      rw [if_pos (show off ≤ off + k ∧ off + k < off + (xs.take (k + 1)).length by rw [List.length_take]; omega), if_pos rfl, if_pos (by rw [xorAt_length]; omega)]
      simp [show k < xs.length from hk, List.getElem?_take]
    · rw [if_neg h1, xorAt_get hi]
      congr 1
      by_cases h2 : off ≤ i ∧ i < off + (xs.take k).length
      · have h3 : off ≤ i ∧ i < off + (xs.take (k + 1)).length := by simp at h2 ⊢; omega
        rw [if_pos h2, if_pos h3]
        have h4 : i - off < k := by simp at h2; omega
        simp [List.getElem?_take, h4, show i - off < k + 1 by omega]
      · have h3 : ¬ (off ≤ i ∧ i < off + (xs.take (k + 1)).length) := by simp at h2 ⊢; omega
        rw [if_neg h2, if_neg h3]
  · rw [List.getElem?_eq_none (by rw [xorAt_length]; omega), List.getElem?_eq_none (by rw [List.length_set, xorAt_length]; omega)]
end Go.S
namespace Go.Proofs.YteopoodhclljjaaGreatDoor
open Go Go.Eng
section
variable {w : World} {gd : Nat} {L : Lay} {D : S.Drv}
theorem AreaAt.setBad {w' : World} {a : AL} {A : S.Area} {f : Int → Bool} (h : AreaAt w a A) (hf : Fr (fun k => k = a.mb) w w') (m : MapAt w' kInt Value.bool a.mb (fun k => if f k then some true else none)) : AreaAt w' a (A.setBad f) :=
  ⟨h.var.fr hf h.ne.2.1, h.row.fr hf h.ne.2.2, m, h.ne, h.len⟩
theorem dTurn_s {name : ByteArray} {off : Int} {p : Sl} {xs : List UInt8} {K : Bool → World → Prop} (h : DriveAt w gd L D) (ho : S.I64 off) (hp : Bts w p xs) (hbl : xs.length ≤ 68719476736) (hsep : xs ≠ [] → ∀ a, p.a = some a → ¬ L.inD gd a.block)
    (hK : ∀ w', Fr (L.inD gd) w w' → DriveAt w' gd L (D.turn name.toList off xs).2 → K (D.turn name.toList off xs).1 w') :
    callS Tryz.prog 35 #[.pointer (some (at_ gd 0)), .string name, .int .i64 off, .slice p.a p.len p.cap] [.one .bool] K w := by
  refine f35_ok ?_
  unfold f35
  have hpl := Bts.len hp
  refine nil_i rfl ?_
  refine area_look h ?_
  refine ptrEq_i ?_
  unfold S.Drv.turn at hK
  cases hi : D.at? name.toList with
  | none =>
    rw [hi] at hK
    refine join_i (fun b w' => b = true ∧ w' = w) ?_ ?_
    · rintro b w' ⟨rfl, rfl⟩
      exact cond_i (fun _ => hK _ (Fr.refl _ _) h) (fun h => by cases h)
    · intro J hJ
      exact cond_i (fun _ => hJ _ _ ⟨rfl, rfl⟩) (fun h => by cases h)
  | some i =>
    rw [hi] at hK
    dsimp only at hK
    have hA := area_at h hi
    have hil := S.Drv.at?_lt hi
    have hal := hA.len
    have hm := al_mem (L := L) (i := i) (by rw [h.len]; exact hil)
    have inbb : L.inD gd (L.al.getD i default).bb := .inr (.inr (.inr (.inr ⟨_, hm, .inr (.inl rfl)⟩)))
    refine join_i (fun b w' => b = (!S.within off xs.length (D.ar i).b.length) ∧ w' = w) ?_ ?_
    · rintro b w' ⟨rfl, rfl⟩
      refine cond_i (fun hb => ?_) (fun hb => ?_)
      · have hw : S.within off xs.length (D.ar i).b.length = false := by simpa using hb
        rw [hw] at hK
        exact hK _ (Fr.refl _ _) h
      · have hw : S.within off xs.length (D.ar i).b.length = true := by simpa using hb
        rw [hw] at hK
        simp only [if_true] at hK
        obtain ⟨q1, q2, q3, q4, q5⟩ := S.within_iff.1 hw
        have hfit : off.toNat + xs.length ≤ (D.ar i).b.length := by omega
        refine loop_i (fun (x : Int) w1 => ∃ k : Nat, k ≤ xs.length ∧ x = k ∧ Fr (L.inD gd) w' w1 ∧ DriveAt w1 gd L (D.set i ((D.ar i).setB (S.xorAt (D.ar i).b (xs.take k) off.toNat)))) (fun x _ => xs.length - x.toNat) ⟨0, by omega, rfl, Fr.refl _ _, ?_⟩ ?_
        · rw [List.take_zero, S.xorAt_nil, S.Area.setB_self, S.Drv.set_self hil]; exact h
        · rintro x w1 again ⟨k, hk, rfl, f1, h1⟩ hag
          have hil1 : i < (D.set i ((D.ar i).setB (S.xorAt (D.ar i).b (xs.take k) off.toNat))).as.length := by simpa [S.Drv.set] using hil
          have hA1 := h1.areas i hil1
          rw [S.Drv.ar_set hil] at hA1
          have hlen1 : (S.xorAt (D.ar i).b (xs.take k) off.toNat).length = (D.ar i).b.length := S.xorAt_length _ _ _
          refine cond_i (fun hlt => ?_) (fun hge => ?_)
          · have hlt' : k < xs.length := by have := of_decide_eq_true hlt; omega
            have hp1 : Bts w1 p xs := rd_fr_ne hp f1 fun hne a ha e => hsep (by simpa using hne) a ha e
            refine elem_i (l := .int .u8) (x := ((xs[k]'hlt').toNat : Int)) hp1 (by omega) (by omega) (by rw [Int.toNat_natCast]; exact bytes_get hlt') ?_
            refine nil_i rfl ?_
            refine ld1_i (l := .slc) (o := 0) (bSl (L.al.getD i default).bb (S.xorAt (D.ar i).b (xs.take k) off.toNat).length) hA1.var rfl ?_
            rw [wrap_i64 (x := off + (k : Int)) (by omega) (by omega)]
            have hidx : (off + (k : Int)).toNat = off.toNat + k := by omega
            have hget : (S.xorAt (D.ar i).b (xs.take k) off.toNat)[off.toNat + k]? = some ((D.ar i).b.getD (off.toNat + k) 0) := by
              rw [S.xorAt_get (by omega), if_neg (by simp; omega)]
            refine elem_i (l := .int .u8) (x := (((D.ar i).b.getD (off.toNat + k) 0).toNat : Int)) hA1.rd (by omega) (show off + (k : Int) < ((S.xorAt (D.ar i).b (xs.take k) off.toNat).length : Int) by omega) (by rw [hidx]; exact bytes_get? hget) ?_
            refine ix_i (a := at_ (L.al.getD i default).bb 0) rfl (by omega) (show off + (k : Int) < ((S.xorAt (D.ar i).b (xs.take k) off.toNat).length : Int) by omega) ?_
            rw [Nat.mul_one, at_add, Nat.zero_add, hidx]
            have hx : xorI .u8 (((D.ar i).b.getD (off.toNat + k) 0).toNat : Int) ((xs[k]'hlt').toNat : Int) = ((((D.ar i).b.getD (off.toNat + k) 0) ^^^ xs.getD k 0).toNat : Int) := by
              rw [xor_u8 (UInt8.toNat_lt _) (UInt8.toNat_lt _), UInt8.toNat_xor]
              simp [hlt']
            rw [hx]
            refine st1_i (o := off.toNat + k) hA1.row (by rw [S.Area.setB_b, List.length_map, hlen1]; omega) rfl fun w2 f2 v2 => ?_
            have hb2 : Var w2 (L.al.getD i default).bb ((S.xorAt (D.ar i).b (xs.take (k + 1)) off.toNat).map vB) := by
              rw [S.xorAt_step hfit hlt', List.map_set]; exact v2
            have hA2 := hA1.setB f2 hb2 (by rw [S.xorAt_length]; exact hlen1.symm)
            have h2 := h1.upArea hil1 (f2.mono fun k _ hk => .inl hk) hA2 (by rw [S.Drv.ar_set hil]; rfl) (by rw [S.Drv.ar_set hil, setB_len, setB_len, S.xorAt_length, S.xorAt_length])
            rw [S.Drv.set_set, S.Area.setB_setB] at h2
            refine hag _ w2 ⟨k + 1, by omega, by rw [wrap_i64 (by omega) (by omega)]; omega, f1.trans f2 fun k _ hk => by rw [hk]; exact inbb, h2⟩ (by rw [wrap_i64 (by omega) (by omega)]; omega)
          · have hkn : k = xs.length := by have := of_decide_eq_false hge; omega
            subst hkn
            rw [List.take_of_length_le (Nat.le_refl _)] at h1
            exact hK w1 f1 h1
    · intro J hJ
      refine cond_i (fun h => by cases h) (fun _ => ?_)
      refine nil_i rfl ?_
      refine ld1_i (l := .slc) (o := 0) (bSl (L.al.getD i default).bb (D.ar i).b.length) hA.var rfl ?_
      rw [show ((p.len : Nat) : Int) = ((xs.length : Nat) : Int) by rw [hpl]]
      refine within_s ho ⟨by omega, by omega⟩ ⟨by simp only; omega, by simp only; omega⟩ ?_
      exact hJ _ _ ⟨rfl, rfl⟩
theorem dBad_s {name : ByteArray} {sec : Int} {on : Bool} {K : Bool → World → Prop} (h : DriveAt w gd L D) (ho : S.I64 sec)
    (hK : ∀ w', Fr (L.inD gd) w w' → DriveAt w' gd L (D.badS name.toList sec on).2 → K (D.badS name.toList sec on).1 w') :
    callS Tryz.prog 36 #[.pointer (some (at_ gd 0)), .string name, .int .i64 sec, .bool on] [.one .bool] K w := by
  refine f36_ok ?_
  unfold f36
  refine nil_i rfl ?_
  refine area_look h ?_
  refine ptrEq_i ?_
  unfold S.Drv.badS at hK
  cases hi : D.at? name.toList with
  | none =>
    rw [hi] at hK
    refine join_i (fun b w' => b = true ∧ w' = w) ?_ ?_
    · rintro b w' ⟨rfl, rfl⟩
      exact cond_i (fun _ => hK _ (Fr.refl _ _) h) (fun h => by cases h)
    · intro J hJ
      exact cond_i (fun _ => hJ _ _ ⟨rfl, rfl⟩) (fun h => by cases h)
  | some i =>
    rw [hi] at hK
    dsimp only at hK
    have hA := area_at h hi
    have hil := S.Drv.at?_lt hi
    have hal := hA.len
    have hm := al_mem (L := L) (i := i) (by rw [h.len]; exact hil)
    have inmb : L.inD gd (L.al.getD i default).mb := .inr (.inr (.inr (.inr ⟨_, hm, .inr (.inr rfl)⟩)))
    refine join_i (fun b w' => b = decide (sec < 0 ∨ sec ≥ ((D.ar i).b.length : Int) / 64) ∧ w' = w) ?_ ?_
    · rintro b w' ⟨rfl, rfl⟩
      refine cond_i (fun hb => ?_) (fun hb => ?_)
      · rw [if_pos (of_decide_eq_true hb)] at hK
        exact hK _ (Fr.refl _ _) h
      · rw [if_neg (of_decide_eq_false hb)] at hK
        refine nil_i rfl ?_
        refine ld1_i (l := .mp) (o := 1) (some (L.al.getD i default).mb) hA.var rfl ?_
        refine update_i (k := sec) (v := true) hA.bad rfl rfl fun w1 f1 m1 => ?_
        have hup : ∀ (f : Int → Bool) (w2 : World), Fr (fun k => k = (L.al.getD i default).mb) w' w2 → MapAt w2 kInt Value.bool (L.al.getD i default).mb (fun k => if f k then some true else none) → DriveAt w2 gd L (D.set i ((D.ar i).setBad f)) := fun f w2 hf m2 => h.upArea hil (hf.mono fun k _ hk => .inr hk) (hA.setBad hf m2) rfl rfl
        refine cond_i (fun hon => ?_) (fun hon => ?_)
        · have hon' : on = false := by simpa using hon
          subst hon'
          refine nil_i rfl ?_
          refine ld1_i (l := .mp) (o := 1) (some (L.al.getD i default).mb) (hA.var.fr f1 hA.ne.2.1) rfl ?_
          refine delete_i (k := sec) m1 rfl fun w2 f2 m2 => ?_
          refine hK w2 ((f1.trans' f2).mono fun k _ hk => by rw [hk]; exact inmb) (hup _ w2 (f1.trans' f2) (m2.congr fun k => ?_))
          by_cases hk : k = sec <;> simp [hk]
        · have hon' : on = true := by simpa using hon
          subst hon'
          refine hK w1 (f1.mono fun k _ hk => by rw [hk]; exact inmb) (hup _ w1 f1 (m1.congr fun k => ?_))
          by_cases hk : k = sec <;> simp [hk]
    · intro J hJ
      refine cond_i (fun hb => ?_) (fun hb => ?_)
      · have hs : sec < 0 := by simpa using hb
        exact hJ _ _ ⟨by simp [hs], rfl⟩
      · have hs : ¬ sec < 0 := by simpa using hb
        refine nil_i rfl ?_
        refine ld1_i (l := .slc) (o := 0) (bSl (L.al.getD i default).bb (D.ar i).b.length) hA.var rfl ?_
        refine hJ _ _ ⟨?_, rfl⟩
        simp only
        rw [Int.tdiv_eq_ediv_of_nonneg (by omega), wrap_i64 (by omega) (by omega)]
        simp [hs]
end
end Go.Proofs.YteopoodhclljjaaGreatDoor

/-! Named -/
namespace Go.S
def okc (b : UInt8) : Bool := (decide (97 ≤ b.toNat) && decide (b.toNat ≤ 122)) || (decide (48 ≤ b.toNat) && decide (b.toNat ≤ 57)) || b.toNat == 95
def named (l : List UInt8) : Bool := decide (1 ≤ l.length) && decide (l.length ≤ 24) && l.all okc
end Go.S
namespace Go.Proofs.YteopoodhclljjaaGreatDoor
open Go Go.Eng
def badc (c : Int) : Bool := !((((decide (c ≥ 97)) && (decide (c ≤ 122))) || ((decide (c ≥ 48)) && (decide (c ≤ 57)))) || (c == 95))
theorem badc_lo (b : UInt8) : badc (b.toNat : Int) = !S.okc b := by
  unfold badc S.okc
  have e : ((b.toNat : Int) == 95) = (b.toNat == 95) := by rw [Bool.eq_iff_iff]; simp; omega
  rw [e]
  congr 2
  congr 1
  · congr 1 <;> (rw [decide_eq_decide]; omega)
  · congr 1 <;> (rw [decide_eq_decide]; omega)
theorem badc_hi {c : Int} (h : 128 ≤ c) : badc c = true := by
  unfold badc
  have h1 : decide (c ≤ 122) = false := decide_eq_false (by omega)
  have h2 : decide (c ≤ 57) = false := decide_eq_false (by omega)
  have h3 : (c == 95) = false := by rw [Bool.eq_false_iff]; simp; omega
  rw [h1, h2, h3]; simp
theorem indexFunc_s {f : Value} {s : ByteArray} {K : Int → World → Prop} {w : World} (hs : s.size ≤ 9223372036854775807) (hf : ∀ (c : Int) (R : Bool → World → Prop) (w : World), R (badc c) w → callY Tryz.prog (callSem f #[.int .i32 c]) [.one .bool] R w) (hK : ∀ r w', Ext w w' → (decide (r ≥ 0) = !(s.toList.all S.okc)) → K r w') :
    callS Tryz.prog 111 #[.string s, f, .bool true] [.one (.int .i64)] K w := by
  refine f111_ok ?_
  unfold f111
  have hsz : s.toList.length = s.size := by rw [← str_size, str_of]
  refine rangeStr_i fun r w1 e1 hr h1 => ?_
  refine loop_i (fun (_ : Unit) w' => ∃ pos, Ext w w' ∧ w'.heap[r]? = some (.stringIter s pos) ∧ pos ≤ s.size ∧ (s.toList.take pos).all S.okc = true) (fun _ w' => match w'.heap[r]? with | some (.stringIter _ pos) => s.size - pos | _ => 0) ⟨0, e1, h1, by omega, rfl⟩ ?_
  rintro _ w2 again ⟨pos, e2, h2, hp, hall⟩ hag
  refine next_i h2 (fun hge => ?_) (fun hlt => ?_)
  · have : s.toList.take pos = s.toList := List.take_of_length_le (by omega)
    rw [this] at hall
    exact hK (-1) w2 e2 (by rw [hall]; rfl)
  · have e3 := e2.putObj (.stringIter s (pos + (Utf8.decode s pos).2)) hr
    obtain ⟨b, hb⟩ : ∃ b, s.toList[pos]? = some b := ⟨s.toList[pos]'(by omega), by simp [show pos < s.toList.length by omega]⟩
    have hmem : b ∈ s.toList := List.mem_of_getElem? hb
    refine hf _ _ _ ?_
    by_cases hlo : b.toNat < 128
    · rw [decode_lo hb hlo] at e3 ⊢
      simp only
      rw [badc_lo]
      refine cond_i (fun hc => ?_) (fun hc => ?_)
      · have hbad : S.okc b = false := by simpa using hc
        refine hK _ _ e3 ?_
        have : s.toList.all S.okc = false := by
          rw [Bool.eq_false_iff]
          intro h
          rw [List.all_eq_true.1 h b hmem] at hbad; cases hbad
        rw [this]; simp
      · have hgood : S.okc b = true := by simpa using hc
        refine hag () _ ⟨pos + 1, e3, putObj_at h2, by omega, ?_⟩ ?_
        · rw [List.take_add_one, hb, List.all_append, hall]; simp [hgood]
        · rw [putObj_at h2, h2]; simp only; omega
    · have hhi := decode_hi hb (by omega)
      rw [badc_hi (by omega)]
      refine cond_i (fun _ => ?_) (fun h => by cases h)
      refine hK _ _ e3 ?_
      have : s.toList.all S.okc = false := by
        rw [Bool.eq_false_iff]
        intro h
        have h3 := List.all_eq_true.1 h b hmem
        unfold S.okc at h3
        simp only [Bool.or_eq_true, Bool.and_eq_true, decide_eq_true_eq, beq_iff_eq] at h3
        omega
      rw [this]; simp
theorem containsFunc_s {f : Value} {s : ByteArray} {K : Bool → World → Prop} {w : World} (hs : s.size ≤ 9223372036854775807) (hf : ∀ (c : Int) (R : Bool → World → Prop) (w : World), R (badc c) w → callY Tryz.prog (callSem f #[.int .i32 c]) [.one .bool] R w) (hK : ∀ w', Ext w w' → K (!(s.toList.all S.okc)) w') :
    callS Tryz.prog 84 #[.string s, f] [.one .bool] K w := by
  refine f84_ok ?_
  unfold f84
  refine f100_ok ?_
  unfold f100
  exact indexFunc_s hs hf fun r w' e h => by show K (decide (r ≥ 0)) w'; rw [h]; exact hK w' e
theorem named_pre (s : ByteArray) : ((!(s.toList == (ByteArray.mk #[]).toList)) && (decide ((s.size : Int) ≤ 24))) = (decide (1 ≤ s.toList.length) && decide (s.toList.length ≤ 24)) := by
  have hsz : s.toList.length = s.size := by rw [← str_size, str_of]
  rw [show (ByteArray.mk #[]).toList = [] from str_toList []]
  congr 1
  · cases hl : s.toList with
    | nil => rfl
    | cons a l => simp
  · rw [decide_eq_decide]; omega
end Go.Proofs.YteopoodhclljjaaGreatDoor
namespace Go.Proofs.YteopoodhclljjaaGreatDoor
open Go Go.Eng
theorem dnamed_s {s : ByteArray} {K : Bool → World → Prop} {w : World} (hs : s.size ≤ 9223372036854775807) (hK : ∀ w', Ext w w' → K (S.named s.toList) w') : callS Tryz.prog 58 #[.string s] [.one .bool] K w := by
  refine f58_ok ?_
  unfold f58
  refine join_i (fun b w' => b = S.named s.toList ∧ Ext w w') (fun b w' ⟨hb, e⟩ => by rw [hb]; exact hK w' e) fun J hJ => ?_
  rw [named_pre]
  refine cond_i (fun h => ?_) (fun h => ?_)
  · refine containsFunc_s hs (fun c R w hR => ?_) fun w' e => hJ _ _ ⟨by unfold S.named; rw [h]; simp, e⟩
    refine callFn_i (fn := Tryz.f85) Tryz.func85 (by kernel_rfl) (by kernel_rfl) ?_
    refine f85_ok ?_
    unfold f85
    exact hR
  · exact hJ _ _ ⟨by unfold S.named; rw [h]; simp, Fr.refl _ _⟩
end Go.Proofs.YteopoodhclljjaaGreatDoor
namespace Go.Proofs.YteopoodhclljjaaGreatDoor
open Go Go.Eng
theorem snamed_s {s : ByteArray} {K : Bool → World → Prop} {w : World} (hs : s.size ≤ 9223372036854775807) (hK : ∀ w', Ext w w' → K (S.named s.toList) w') : callS Tryz.prog 63 #[.string s] [.one .bool] K w := by
  refine f63_ok ?_
  unfold f63
  refine join_i (fun b w' => b = S.named s.toList ∧ Ext w w') (fun b w' ⟨hb, e⟩ => by rw [hb]; exact hK w' e) fun J hJ => ?_
  rw [named_pre]
  refine cond_i (fun h => ?_) (fun h => ?_)
  · refine containsFunc_s hs (fun c R w hR => ?_) fun w' e => hJ _ _ ⟨by unfold S.named; rw [h]; simp, e⟩
    refine callFn_i (fn := Tryz.f86) Tryz.func86 (by kernel_rfl) (by kernel_rfl) ?_
    refine f86_ok ?_
    unfold f86
    exact hR
  · exact hJ _ _ ⟨by unfold S.named; rw [h]; simp, Fr.refl _ _⟩
end Go.Proofs.YteopoodhclljjaaGreatDoor

/-! Drv10d -/
namespace Go.S
open Go Go.Eng
abbrev PartL := List (List UInt8 × Int)
def partOk (prev : PartL) (p : List UInt8 × Int) : Bool := named p.1 && !(prev.any fun q => q.1 == p.1) && decide (64 ≤ p.2) && decide (p.2 ≤ 1048576) && decide (p.2 % 64 = 0)
def okAt (ps : PartL) (i : Nat) : Bool := partOk (ps.take i) (ps.getD i ([], 0))
def tot (ps : PartL) : Int := (ps.map (·.2)).sum
/-- The error of New. -/
def made (ps : PartL) : Int := if ps.length > 16 then 40 else if (List.range ps.length).all (okAt ps) then (if tot ps > 1048576 then 11 else 0) else 40
theorem tot_take {ps : PartL} {i : Nat} (h : i < ps.length) : tot (ps.take (i + 1)) = tot (ps.take i) + (ps.getD i ([], 0)).2 := by
  unfold tot
  rw [List.take_succ_eq_append_getElem h, List.map_append, List.sum_append]
  congr 1
  simp [h]
theorem made_bad {ps : PartL} {i : Nat} (hl : ps.length ≤ 16) (hi : i < ps.length) (h : okAt ps i = false) : made ps = 40 := by
  unfold made
  rw [if_neg (by omega), if_neg]
  intro ha
  rw [List.all_eq_true.1 ha i (by simpa using hi)] at h; cases h
theorem made_good {ps : PartL} (hl : ps.length ≤ 16) (h : ∀ i, i < ps.length → okAt ps i = true) : made ps = if tot ps > 1048576 then 11 else 0 := by
  unfold made
  rw [if_neg (by omega), if_pos]
  rw [List.all_eq_true]
  intro i hi
  exact h i (by simpa using hi)
/-- A name's place among the first parts. -/
def idx (ps : PartL) (name : List UInt8) : Option Nat := ps.findIdx? fun q => q.1 == name
theorem idx_none {ps : PartL} {name : List UInt8} : idx ps name = none ↔ (ps.any fun q => q.1 == name) = false := by
  unfold idx
  rw [List.findIdx?_eq_none_iff, List.any_eq_false]
  constructor
  · intro h x hx; have := h x hx; simpa using this
  · intro h x hx; have := h x hx; simpa using this
theorem idx_lt {ps : PartL} {name : List UInt8} {j : Nat} (h : idx ps name = some j) : j < ps.length := by
  unfold idx at h
  rw [List.findIdx?_eq_some_iff_getElem] at h
  exact h.1
theorem idx_snoc {ps : PartL} {p : List UInt8 × Int} {name : List UInt8} : idx (ps ++ [p]) name = (idx ps name).or (if p.1 = name then some ps.length else none) := by
  unfold idx
  rw [List.findIdx?_append]
  congr 1
  by_cases h : p.1 = name
  · simp [h]
  · simp [h]
/-- Each one is found at its own place. -/
theorem idx_self {ps : PartL} (h : ∀ i, i < ps.length → okAt ps i = true) {i : Nat} (hi : i < ps.length) : idx ps (ps.getD i ([], 0)).1 = some i := by
  unfold idx
  rw [List.findIdx?_eq_some_iff_getElem]
  refine ⟨hi, by simp [hi], fun j hj => ?_⟩
  have hok := h i hi
  unfold okAt partOk at hok
  simp only [Bool.and_eq_true, Bool.not_eq_true', List.any_eq_false] at hok
  have := hok.1.1.1.2 ps[j] (by
    rw [List.mem_take_iff_getElem]
    exact ⟨j, by omega, rfl⟩)
  simpa [hi] using this
theorem at?_fresh (ps : PartL) (name : List UInt8) : (Drv.fresh ps).at? name = idx ps name := by
  unfold Drv.at? Drv.fresh idx
  rw [List.findIdx?_map]; rfl
end Go.S
namespace Go.Proofs.YteopoodhclljjaaGreatDoor
open Go Go.Eng
def pc (p : List UInt8 × Int) : List Value := [.string (str p.1), .int .i64 p.2]
/-- A list of partitions in memory. -/
structure PartsIn (w : World) (s : Sl) (ps : S.PartL) : Prop where
  rds : Rds w s 2 (ps.map pc)
  ok : ∀ p ∈ ps, S.I64 p.2 ∧ p.1.length ≤ 9223372036854775807
theorem PartsIn.ext {w w' : World} {s : Sl} {ps : S.PartL} (h : PartsIn w s ps) (e : Ext w w') : PartsIn w' s ps := ⟨h.rds.ext e, h.ok⟩
theorem PartsIn.len {w : World} {s : Sl} {ps : S.PartL} (h : PartsIn w s ps) : s.len = ps.length := by have := h.rds.len; simp at this; omega
/-- 'p := parts[i]', a variable of its own. -/
theorem part_at {w : World} {s : Sl} {ps : S.PartL} {i : Nat} (h : PartsIn w s ps) (hi : i < ps.length) {K : Addr → World → Prop}
    (hK : ∀ g w', Ext w w' → w.heap.size ≤ g → Var w' g (pc (ps.getD i ([], 0))) → K (at_ g 0) w') :
    semS Tryz.prog (Instr.indexAt 81 (.slice s.a s.len s.cap) (.int .i64 (i : Int))) (.one .adr) (fun x6 w =>
        semS Tryz.prog (Instr.loadAt 80 (.pointer (some x6))) (.agg [.str, (.int .i64)]) (fun x7 x8 w =>
        semS Tryz.prog (Instr.alloc 80 true (.tuple #[])) (.one .adr) (fun x9 w =>
        semU Tryz.prog (Instr.storeAt 80 (.pointer (some x9)) (.agg #[(.string x7), (.int .i64 x8)])) (fun w => K x9 w) w) w) w) w := by
  have hsl := h.len
  obtain ⟨a, ha⟩ := h.rds.some (by omega)
  have hp : (ps.map pc)[i]? = some (pc (ps.getD i ([], 0))) := by simp [hi]
  refine ix_i ha (by omega) (by omega) ?_
  rw [Int.toNat_natCast]
  refine ldA_i (cs := pc (ps.getD i ([], 0))) rfl (h.rds.elem ha hp) ?_
  show semS Tryz.prog (Instr.alloc 80 true (.tuple #[])) (.one .adr) _ w
  refine alloc_i fun g w1 e1 hg v1 => ?_
  refine stV_i (n := 2) (vs := pc (ps.getD i ([], 0))) 0 v1 rfl (Nat.le_refl 2) (fun v hv => ?_) fun w2 f2 v2 => ?_
  · simp only [pc, List.mem_cons, List.not_mem_nil, or_false] at hv
    rcases hv with rfl | rfl <;> rfl
  · exact hK g w2 (Fr.own1 e1 f2 hg) hg v2
/-- What stands when i partitions are laid. -/
structure Laid (w : World) (B gd m i : Nat) (r : Sl) (ps : S.PartL) (g mb : Nat → Nat) : Prop where
  var : Var w gd [.slice r.a r.len r.cap, .map (some m), .int .i64 (-1), .slice none 0 0, .bool false, .int .i64 0, .int .i64 0]
  map : MapAt w kStr vPtr m (fun name => (S.idx (ps.take i) name).map fun j => at_ (g j) 0)
  bad : ∀ j, j < i → MapAt w kInt Value.bool (mb j) (fun _ => none)
  rng : ∀ j, j < i → B ≤ mb j ∧ mb j < g j ∧ g j < w.heap.size
  inc : ∀ j k, j < k → k < i → g j < mb k
theorem Laid.ext {w w' : World} {B gd m i : Nat} {r : Sl} {ps : S.PartL} {g mb : Nat → Nat} (h : Laid w B gd m i r ps g mb) (e : Ext w w') : Laid w' B gd m i r ps g mb :=
  ⟨h.var.ext e, h.map.ext e, fun j hj => (h.bad j hj).ext e, fun j hj => by have := h.rng j hj; have := e.size; omega, h.inc⟩
theorem Laid.fr {T : Nat → Prop} {w w' : World} {B gd m i : Nat} {r : Sl} {ps : S.PartL} {g mb : Nat → Nat} (h : Laid w B gd m i r ps g mb) (e : Fr T w w') (h1 : ¬ T gd) (h2 : ¬ T m) (h3 : ∀ j, j < i → ¬ T (mb j)) : Laid w' B gd m i r ps g mb :=
  ⟨h.var.fr e h1, h.map.fr e h2, fun j hj => (h.bad j hj).fr e (h3 j hj), fun j hj => by have := h.rng j hj; have := e.size; omega, h.inc⟩

theorem new_t1_s {w : World} {B gd m i g9 : Nat} {r : Sl} {ps : S.PartL} {g mb : Nat → Nat} {p : List UInt8 × Int} {tt : Int} {K : Option Addr → Int → World → Prop} {again : Int × Int → World → Prop} (h : Laid w B gd m i r ps g mb) (hB : B ≤ w.heap.size) (hm : gd ≠ m ∧ gd < B ∧ m < B) (v9 : Var w g9 (pc p)) (hi : i < ps.length) (hp : ps.getD i ([], 0) = p) (hn : S.idx (ps.take i) p.1 = none)
    (hvar : ∀ j, j < i → Var w (g j) [.slice none 0 0, .map (some (mb j))])
    (hK : ∀ w' g' mb', Fr (fun k => k = m) w w' → Laid w' B gd m (i + 1) r ps g' mb' → (∀ j, j < i + 1 → Var w' (g' j) [.slice none 0 0, .map (some (mb' j))]) → again (IntKind.wrap .i64 (tt + p.2), IntKind.wrap .i64 ((i : Int) + 1)) w') :
    f26_t1 false K (at_ g9 0) (at_ gd 0) again (tt, (i : Int)) w := by
  unfold f26_t1
  refine cond_i (fun h => by cases h) (fun _ => ?_)
  refine ld1_i (l := .int .i64) (o := 1) p.2 v9 rfl ?_
  have d := Ext.drew w
  refine ⟨fun x => Ext w x, d, ?_⟩
  refine ld1Q_i (l := .mp) (o := 1) (some m) (fun x hx => h.var.ext hx) rfl ?_
  refine ld1Q_i (l := .str) (o := 0) (str p.1) (fun x hx => v9.ext hx) rfl ?_
  refine makeMap_i fun m1 w1 e1 hm1 hmap1 => ?_
  have E1 := d.trans e1
  refine more_i E1 ?_
  refine box_i fun ga w2 e2 hga va => ?_
  have E2 := E1.trans e2
  refine more_i E2 ?_
  have h2 := h.ext E2
  have hm1l := (hmap1 kInt Value.bool).lt
  have hs1 := E1.size
  have hs2 := e2.size
  have hd1 : w.heap.size ≤ m1 := Nat.le_trans d.size hm1
  refine update_i (k := p.1) (v := at_ ga 0) h2.map rfl rfl fun w3 f3 m3 => ?_
  have hgm : ga ≠ m ∧ m1 ≠ m := by omega
  have hgl := va.lt
  have hs3 := f3.size
  refine hK w3 (fun j => if j = i then ga else g j) (fun j => if j = i then m1 else mb j) (E2.fr.trans' f3) ⟨?_, ?_, ?_, ?_, ?_⟩ ?_
  · exact h2.var.fr f3 hm.1
  · refine m3.congr fun name => ?_
    rw [List.take_succ_eq_append_getElem hi, S.idx_snoc]
    have hpi : ps[i] = p := by rw [← hp]; simp [hi]
    have htl : (ps.take i).length = i := by simp; omega
    rw [hpi, htl]
    by_cases hx : name = p.1
    · subst hx
      rw [if_pos rfl, if_pos rfl, hn]; simp
    · rw [if_neg hx, if_neg (fun e => hx e.symm)]
      cases hidx : S.idx (ps.take i) name with
      | none => rfl
      | some j =>
        have := S.idx_lt hidx
        rw [htl] at this
        simp [show j ≠ i by omega]
  · intro j hj
    by_cases hji : j = i
    · subst hji
      simp only [if_true]
      exact ((hmap1 kInt Value.bool).ext e2).fr f3 hgm.2
    · simp only [hji, if_false]
      have := h.rng j (by omega)
      exact (h2.bad j (by omega)).fr f3 (by omega)
  · intro j hj
    by_cases hji : j = i
    · subst hji; simp only [if_true]; omega
    · simp only [hji, if_false]
      have := h.rng j (by omega)
      omega
  · intro j k hjk hk
    have hji : j ≠ i := by omega
    have := h.rng j (by omega)
    simp only [hji, if_false]
    by_cases hki : k = i
    · subst hki; simp only [if_true]; omega
    · simp only [hki, if_false]; exact h.inc j k hjk (by omega)
  · intro j hj
    by_cases hji : j = i
    · subst hji
      simp only [if_true]
      exact va.fr f3 hgm.1
    · simp only [hji, if_false]
      have := h.rng j (by omega)
      exact ((hvar j (by omega)).ext E2).fr f3 (by omega)
end Go.Proofs.YteopoodhclljjaaGreatDoor

/-! Drv10e -/
namespace Go.S
open Go Go.Eng
theorem okAt_size {ps : PartL} {i : Nat} (h : okAt ps i = true) : 64 ≤ (ps.getD i ([], 0)).2 ∧ (ps.getD i ([], 0)).2 ≤ 1048576 := by
  unfold okAt partOk at h
  simp only [Bool.and_eq_true, decide_eq_true_eq] at h
  exact ⟨h.1.1.2, h.1.2⟩
theorem tot_bound {ps : PartL} : ∀ i, i ≤ ps.length → (∀ j, j < i → okAt ps j = true) → 0 ≤ tot (ps.take i) ∧ tot (ps.take i) ≤ 1048576 * (i : Int)
  | 0, _, _ => by simp [tot]
  | i + 1, hi, h => by
    have ih := tot_bound i (by omega) fun j hj => h j (by omega)
    have hs := okAt_size (h i (by omega))
    rw [tot_take (by omega)]
    omega
end Go.S
namespace Go.Proofs.YteopoodhclljjaaGreatDoor
open Go Go.Eng
theorem pc_one {ps : S.PartL} : ∀ v ∈ (ps.map pc).flatten, v.oneCell' = true := fun v hv => by
  obtain ⟨l, hl, hv⟩ := List.mem_flatten.1 hv
  obtain ⟨p, _, rfl⟩ := List.mem_map.1 hl
  simp only [pc, List.mem_cons, List.not_mem_nil, or_false] at hv
  rcases hv with rfl | rfl <;> rfl
theorem cloneP_s {s : Sl} {cs : List Value} {K : Sl → World → Prop} {w : World} (hs : Rd w s 2 cs) (h1 : ∀ v ∈ cs, v.oneCell' = true) (hlen : s.len ≤ 68719476736) (hK : ∀ v w', Ext w w' → Own w' w.heap.size v 2 cs → v.len = s.len → K v w') :
    callS Tryz.prog 57 #[.slice s.a s.len s.cap] [.one .slc] K w :=
  f57_ok (clone_shape hs h1 hlen fun v w' h1 h2 h3 => hK v w' h1 h2 h3)
/-- What stands when all partitions have their places, and i of them their bytes. -/
structure Filled (w : World) (B3 i n : Nat) (ps : S.PartL) (g mb bb : Nat → Nat) : Prop where
  done : ∀ j, j < i → Var w (g j) [.slice (some (at_ (bb j) 0)) (ps.getD j ([], 0)).2.toNat (ps.getD j ([], 0)).2.toNat, .map (some (mb j))] ∧ Var w (bb j) (List.replicate (ps.getD j ([], 0)).2.toNat (vB 0))
  todo : ∀ j, i ≤ j → j < n → Var w (g j) [.slice none 0 0, .map (some (mb j))]
  rng : ∀ j, j < i → B3 ≤ bb j ∧ bb j < w.heap.size
  inc : ∀ j k, j < k → k < i → bb j < bb k
theorem Filled.ext {w w' : World} {B3 i n : Nat} {ps : S.PartL} {g mb bb : Nat → Nat} (h : Filled w B3 i n ps g mb bb) (e : Ext w w') : Filled w' B3 i n ps g mb bb :=
  ⟨fun j hj => ⟨(h.done j hj).1.ext e, (h.done j hj).2.ext e⟩, fun j h1 h2 => (h.todo j h1 h2).ext e, fun j hj => by have := h.rng j hj; have := e.size; omega, h.inc⟩
theorem fresh_drive {w : World} {B B0 gd m n : Nat} {r : Sl} {ps : S.PartL} {g mb bb : Nat → Nat} (h : Laid w B gd m n r ps g mb) (hn : n = ps.length) (B3 : Nat) (hB3 : ∀ j, j < n → g j < B3) (hf : Filled w B3 n n ps g mb bb) (hm : gd ≠ m ∧ gd < B ∧ m < B ∧ B ≤ B3) (hr : Own w B0 r 2 (ps.map pc).flatten) (hrm : ∀ k, r.inB k → k < B ∧ k ≠ gd ∧ k ≠ m) (hok : ∀ i, i < ps.length → S.okAt ps i = true) :
    DriveAt w gd ⟨r, m, Sl.nil, (List.range n).map fun j => ⟨g j, bb j, mb j⟩⟩ (S.Drv.fresh ps) := by
  subst hn
  have hal : ∀ i, i < ps.length → ((List.range ps.length).map fun j => (⟨g j, bb j, mb j⟩ : AL)).getD i default = ⟨g i, bb i, mb i⟩ := fun i hi => by simp [hi]
  have hlen : (S.Drv.fresh ps).as.length = ps.length := by simp [S.Drv.fresh]
  have har : ∀ i, i < ps.length → (S.Drv.fresh ps).ar i = ⟨(ps.getD i ([], 0)).1, List.replicate (ps.getD i ([], 0)).2.toNat 0, fun _ => false⟩ := fun i hi => by simp [S.Drv.fresh, S.Drv.ar, hi]
  refine ⟨h.var, h.map.congr fun name => ?_, by simp [hlen], fun i hi => ?_, fun i j hi hj hij k hk hk2 => ?_, by simpa [S.Drv.fresh] using Rd.nilSl w 1, ?_, hm.1, fun a ha => ?_, fun k hk => ?_, ⟨(by show (-1 : Int) ≤ -1; decide), (by show (-1 : Int) ≤ 9223372036854775807; decide)⟩, ⟨(by show (0 : Int) ≤ 0; decide), (by show (0 : Int) ≤ 1152921504606846976; decide)⟩, ⟨(by show (0 : Int) ≤ 0; decide), (by show (0 : Int) ≤ 1152921504606846976; decide)⟩⟩
  · rw [S.at?_fresh, List.take_of_length_le (Nat.le_refl _)]
    cases hi : S.idx ps name with
    | none => rfl
    | some i => simp only [Option.map_some]; rw [hal i (S.idx_lt hi)]
  · rw [hlen] at hi
    have hs := S.okAt_size (hok i hi)
    have h1 := hf.done i hi
    have h2 := h.rng i hi
    have h3 := hf.rng i hi
    have h4 := hB3 i hi
    rw [hal i hi, har i hi]
    refine ⟨?_, ?_, ?_, ⟨by show g i ≠ bb i; omega, by show g i ≠ mb i; omega, by show bb i ≠ mb i; omega⟩, by rw [List.length_replicate]; omega⟩
    · simpa using h1.1
    · simpa using h1.2
    · exact (h.bad i hi).congr fun k => by simp
  · rw [hlen] at hi hj
    rw [hal i hi] at hk
    rw [hal j hj] at hk2
    have key : ∀ a b, a < b → b < ps.length → AL.inA ⟨g a, bb a, mb a⟩ k → AL.inA ⟨g b, bb b, mb b⟩ k → False := by
      intro a b hab hb h1 h2
      have q1 := h.rng a (by omega)
      have q2 := h.rng b hb
      have q3 := hf.rng a (by omega)
      have q4 := hf.rng b hb
      have q5 := hB3 a (by omega)
      have q6 := hB3 b hb
      have q7 := h.inc a b hab hb
      have q8 := hf.inc a b hab hb
      rcases h1 with h1 | h1 | h1 <;> rcases h2 with h2 | h2 | h2 <;> simp only at h1 h2 <;> omega
    rcases Nat.lt_or_gt_of_ne hij with hlt | hgt
    · exact key i j hlt hj hk hk2
    · exact key j i hgt hi hk2 hk
  · have e : ((S.Drv.fresh ps).as.flatMap fun a => [Value.string (str a.name), .int .i64 (a.b.length : Int)]) = (ps.map pc).flatten := by
      simp only [S.Drv.fresh, List.flatMap_map]
      rw [List.flatMap_def]
      congr 1
      apply List.map_congr_left
      intro p hp
      obtain ⟨i, hi, rfl⟩ := List.getElem_of_mem hp
      have hs := S.okAt_size (hok i hi)
      simp [hi] at hs
      simp only [pc, List.length_replicate]
      congr 3
      omega
    rw [e]; exact hr.rd
  · obtain ⟨i, hi, rfl⟩ := List.mem_map.1 ha
    have hi' : i < ps.length := by simpa using hi
    have q1 := h.rng i hi'
    have q3 := hf.rng i hi'
    constructor
    · rintro (e | e | e) <;> simp only at e <;> omega
    · rintro (e | e | e) <;> simp only at e <;> omega
  · rcases hk with hk | hk
    · obtain ⟨a, ha, _⟩ := hk; cases ha
    · have q := hrm k hk
      have q2 := (hr.inB hk).2
      refine ⟨q.2.1, q.2.2, fun a ha => ?_, q2⟩
      obtain ⟨i, hi, rfl⟩ := List.mem_map.1 ha
      have hi' : i < ps.length := by simpa using hi
      have q1 := h.rng i hi'
      have q3 := hf.rng i hi'
      rintro (e | e | e) <;> simp only at e <;> omega

theorem drvNew_s {s : Sl} {ps : S.PartL} {K : Option Addr → Int → World → Prop} {w : World} (h : PartsIn w s ps)
    (hBad : ∀ w', Ext w w' → S.made ps ≠ 0 → K none (S.made ps) w')
    (hOk : ∀ gd L w', Ext w w' → S.made ps = 0 → w.heap.size ≤ gd → (∀ k, L.inD gd k → w.heap.size ≤ k) → DriveAt w' gd L (S.Drv.fresh ps) → K (some (at_ gd 0)) 0 w') :
    callS Tryz.prog 26 #[.slice s.a s.len s.cap] [.one .ptr, .one (.int .i64)] K w := by
  refine f26_ok ?_
  unfold f26
  have hsl := h.len
  refine cond_i (fun hgt => ?_) (fun hle => ?_)
  · have h16 : ps.length > 16 := by have := of_decide_eq_true hgt; omega
    have hm : S.made ps = 40 := by unfold S.made; rw [if_pos h16]
    have := hBad w (Fr.refl _ _) (by rw [hm]; decide)
    rw [hm] at this; exact this
  have h16 : ps.length ≤ 16 := by have := of_decide_eq_false hle; omega
  refine cloneP_s h.rds.rd pc_one (by omega) fun r w1 e1 o1 _ => ?_
  refine makeMap_i fun m w2 e2 hm2 hmap => ?_
  refine box_i fun gd w3 e3 hgd v3 => ?_
  have hml := (hmap kStr vPtr).lt
  have hgl := v3.lt
  have s1 := e1.size
  have s2 := e2.size
  have s3 := e3.size
  have E3 := (e1.trans e2).trans e3
  have hrin : ∀ k, r.inB k → w.heap.size ≤ k ∧ k < w1.heap.size := fun k hk => o1.inB hk
  have hrm : ∀ k, r.inB k → k < w3.heap.size ∧ k ≠ gd ∧ k ≠ m := fun k hk => by have := hrin k hk; omega
  have hm3 : gd ≠ m ∧ gd < w3.heap.size ∧ m < w3.heap.size := by omega
  have hlaid : Laid w3 w3.heap.size gd m 0 r ps (fun _ => 0) (fun _ => 0) :=
    ⟨v3, ((hmap kStr vPtr).ext e3).congr fun name => rfl, fun j hj => by omega, fun j hj => by omega, fun j k h1 h2 => by omega⟩
  refine loop_i (fun (x : Int × Int) w' => ∃ (i : Nat) (g mb : Nat → Nat), i ≤ ps.length ∧ x = (S.tot (ps.take i), (i : Int)) ∧ Ext w w' ∧ w3.heap.size ≤ w'.heap.size ∧ Laid w' w3.heap.size gd m i r ps g mb ∧ (∀ j, j < i → Var w' (g j) [.slice none 0 0, .map (some (mb j))]) ∧ (∀ j, j < i → S.okAt ps j = true) ∧ Own w' w.heap.size r 2 (ps.map pc).flatten)
    (fun x _ => (ps.length - x.2).toNat) ⟨0, _, _, by omega, by simp [S.tot], E3, Nat.le_refl _, hlaid, fun j hj => by omega, fun j hj => by omega, o1.ext (e2.trans e3)⟩ ?_
  rintro x w4 again ⟨i, g, mb, hi, rfl, e4, s4, l4, hv4, hok4, o4⟩ hag
  dsimp only
  refine cond_i (fun hlt => ?_) (fun hge => ?_)
  · have hi' : i < ps.length := by have := of_decide_eq_true hlt; omega
    have hp := h.ok (ps.getD i ([], 0)) (by simp [hi'])
    have hbound := S.tot_bound i hi hok4
    refine part_at (h.ext e4) hi' fun g9 w5 e5 hg9 v9 => ?_
    generalize hpp : ps.getD i ([], 0) = p at hp v9
    have d5 := Ext.drew w5
    refine ⟨fun x => Ext w5 x, d5, ?_⟩
    refine ld1Q_i (l := .str) (o := 0) (str p.1) (fun x hx => v9.ext hx) rfl ?_
    refine dnamed_s (by rw [str_size]; exact hp.2) fun w6 e6 => ?_
    rw [str_toList]
    have E6 := d5.trans e6
    have E46 := e5.trans E6
    refine more_i E6 ?_
    have l6 := l4.ext E46
    have hokd : S.okAt ps i = S.partOk (ps.take i) p := by unfold S.okAt; rw [hpp]
    have hbad : S.okAt ps i = false → ∀ w', Ext w w' → K none 40 w' := fun hb w' e => by
      have hm := S.made_bad h16 hi' hb
      have := hBad w' e (by rw [hm]; decide)
      rw [hm] at this; exact this
    have E6w := e4.trans E46
    have t1bad : S.okAt ps i = false → f26_t1 true K (at_ g9 0) (at_ gd 0) again (S.tot (ps.take i), (i : Int)) w6 := fun hb => by
      unfold f26_t1
      exact cond_i (fun _ => hbad hb w6 E6w) (fun h => by cases h)
    refine cond_i (fun hn => ?_) (fun hn => ?_)
    · have hn' : S.named p.1 = false := by simpa using hn
      exact t1bad (by rw [hokd]; unfold S.partOk; rw [hn']; rfl)
    · have hn' : S.named p.1 = true := by simpa using hn
      refine ld1Q_i (l := .mp) (o := 1) (some m) (fun x hx => (l4.ext (e5.trans hx)).var) rfl ?_
      refine ld1Q_i (l := .str) (o := 0) (str p.1) (fun x hx => v9.ext hx) rfl ?_
      refine lookQ_i (lf := .ptr) ((S.idx (ps.take i) p.1).map fun j => at_ (g j) 0) (fun x hx => (l4.ext (e5.trans hx)).map) rfl (by cases S.idx (ps.take i) p.1 <;> rfl) ?_
      refine ptrNeQ_i ?_
      refine cond_i (fun hx => ?_) (fun hx => ?_)
      · refine t1bad ?_
        rw [hokd]; unfold S.partOk
        have : ((ps.take i).any fun q => q.1 == p.1) = true := by
          rw [← Bool.not_eq_false, ← S.idx_none]
          intro hnone; rw [hnone] at hx; cases hx
        rw [this]; simp
      · have hnone : S.idx (ps.take i) p.1 = none := by
          cases hq : S.idx (ps.take i) p.1 with
          | none => rfl
          | some j => rw [hq] at hx; cases hx
        have hany := S.idx_none.1 hnone
        refine ld1Q_i (l := .int .i64) (o := 1) p.2 (fun x hx => v9.ext hx) rfl ?_
        refine cond_i (fun hx => ?_) (fun hx => ?_)
        · have hlt64 : p.2 < 64 := of_decide_eq_true hx
          refine t1bad ?_
          rw [hokd]; unfold S.partOk
          rw [show decide (64 ≤ p.2) = false from decide_eq_false (by omega)]; simp
        · have h64 : ¬ p.2 < 64 := of_decide_eq_false hx
          refine ld1Q_i (l := .int .i64) (o := 1) p.2 (fun x hx => v9.ext hx) rfl ?_
          refine cond_i (fun hx => ?_) (fun hx => ?_)
          · have hgt : p.2 > 1048576 := of_decide_eq_true hx
            refine t1bad ?_
            rw [hokd]; unfold S.partOk
            rw [show decide (p.2 ≤ 1048576) = false from decide_eq_false (by omega)]; simp
          · have hle : ¬ p.2 > 1048576 := of_decide_eq_false hx
            refine ld1Q_i (l := .int .i64) (o := 1) p.2 (fun x hx => v9.ext hx) rfl ?_
            rw [Int.tmod_eq_emod_of_nonneg (by omega)]
            cases hmod : (p.2 % 64 != 0) with
            | true =>
              refine t1bad ?_
              rw [hokd]; unfold S.partOk
              rw [show decide (p.2 % 64 = 0) = false from decide_eq_false (by simpa using hmod)]; simp
            | false =>
              have hmod' : p.2 % 64 = 0 := by simpa using hmod
              have hgood : S.okAt ps i = true := by
                rw [hokd]; unfold S.partOk
                rw [hn', hany]; simp; omega
              refine new_t1_s l6 (by have := E46.size; omega) hm3 (v9.ext E6) hi' hpp hnone (fun j hj => (hv4 j hj).ext E46) fun w7 g' mb' f7 l7 hv7 => ?_
              rw [wrap_i64 (x := S.tot (ps.take i) + p.2) (by omega) (by omega), wrap_i64 (x := (i : Int) + 1) (by omega) (by omega)]
              refine hag _ w7 ⟨i + 1, g', mb', by omega, ?_, ?_, by have := E46.size; have := f7.size; omega, l7, hv7, ?_, ?_⟩ ?_
              · rw [S.tot_take hi', hpp]; rfl
              · exact Ext.own E6w f7 fun k hk => by omega
              · intro j hj
                by_cases hji : j = i
                · subst hji; exact hgood
                · exact hok4 j (by omega)
              · exact (o4.ext E46).fr f7 fun a ha e => (hrm _ ⟨a, ha, rfl⟩).2.2 e
              · show ((ps.length : Int) - ((i : Int) + 1)).toNat < ((ps.length : Int) - (i : Int)).toNat; omega
  · have hin : i = ps.length := by have := of_decide_eq_false hge; omega
    subst hin
    clear hag hge
    have hmade := S.made_good h16 hok4
    rw [List.take_of_length_le (Nat.le_refl _)]
    refine cond_i (fun hx => ?_) (fun hx => ?_)
    · rw [if_pos (of_decide_eq_true hx)] at hmade
      have := hBad w4 e4 (by rw [hmade]; decide)
      rw [hmade] at this; exact this
    · rw [if_neg (of_decide_eq_false hx)] at hmade
      have hB3 : ∀ j, j < ps.length → g j < w4.heap.size := fun j hj => (l4.rng j hj).2.2
      refine loop_i (fun (x : Int) w' => ∃ (i : Nat) (bb : Nat → Nat), i ≤ ps.length ∧ x = i ∧ Ext w w' ∧ w4.heap.size ≤ w'.heap.size ∧ Laid w' w3.heap.size gd m ps.length r ps g mb ∧ Filled w' w4.heap.size i ps.length ps g mb bb ∧ Own w' w.heap.size r 2 (ps.map pc).flatten)
        (fun x _ => (ps.length - x).toNat) ⟨0, fun _ => 0, by omega, rfl, e4, Nat.le_refl _, l4, ⟨fun j hj => by omega, fun j _ hj => hv4 j hj, fun j hj => by omega, fun j k h1 h2 => by omega⟩, o4⟩ ?_
      rintro x w5 again ⟨i, bb, hi, rfl, e5, s5, l5, f5, o5⟩ hag
      refine cond_i (fun hlt => ?_) (fun hge => ?_)
      · have hi' : i < ps.length := by have := of_decide_eq_true hlt; omega
        have hsz := S.okAt_size (hok4 i hi')
        refine part_at (h.ext e5) hi' fun g9 w6 e6 hg9 v9 => ?_
        have d6 := Ext.drew w6
        have l6 := l5.ext (e6.trans d6)
        have f6 := f5.ext (e6.trans d6)
        refine ⟨fun x => Ext w6 x, d6, ?_⟩
        refine ld1Q_i (l := .mp) (o := 1) (some m) (fun x hx => (l5.ext (e6.trans hx)).var) rfl ?_
        refine ld1Q_i (l := .str) (o := 0) (str (ps.getD i ([], 0)).1) (fun x hx => v9.ext hx) rfl ?_
        refine lookQ_i (lf := .ptr) (some (at_ (g i) 0)) (fun x hx => (l5.ext (e6.trans hx)).map) rfl ?_ ?_
        · rw [List.take_of_length_le (Nat.le_refl _), S.idx_self hok4 hi']; rfl
        refine ld1Q_i (l := .int .i64) (o := 1) (ps.getD i ([], 0)).2 (fun x hx => v9.ext hx) rfl ?_
        refine makeRow_i (by omega) (by omega) fun bg w7 e7 hbg v7 => ?_
        refine more_i (d6.trans e7) ?_
        refine nil_i rfl ?_
        have l7 := l6.ext e7
        have f7 := f6.ext e7
        have hgi := l5.rng i hi'
        have hs6 := e6.size
        have hs7 : w6.heap.size ≤ bg := Nat.le_trans d6.size hbg
        refine st1_i (o := 0) (f7.todo i (Nat.le_refl _) hi') (by simp) rfl fun w8 f8 v8 => ?_
        have hbgl := v7.lt
        have hz : (Builtin.zeroCells (Value.int .u8 0).cells (ps.getD i ([], 0)).2.toNat).toList = List.replicate (ps.getD i ([], 0)).2.toNat (vB 0) := zeroCells_one _ _
        rw [hz] at v7
        have E7 := (e6.trans d6).trans e7
        have gne : ∀ j, j < ps.length → j ≠ i → g j ≠ g i := fun j hj hji e => by
          have q1 := l5.rng j hj
          rcases Nat.lt_or_gt_of_ne hji with h1 | h1
          · have := l5.inc j i h1 hi'; omega
          · have := l5.inc i j h1 hj; omega
        have gmb : ∀ j, j < ps.length → mb j ≠ g i := fun j hj e => by
          have q1 := l5.rng j hj
          rcases Nat.lt_trichotomy j i with h1 | h1 | h1
          · have := l5.inc j i h1 hi'; omega
          · subst h1; omega
          · have := l5.inc i j h1 hj; omega
        refine hag _ w8 ⟨i + 1, fun j => if j = i then bg else bb j, by omega, ?_, ?_, ?_, ?_, ⟨?_, ?_, ?_, ?_⟩, ?_⟩ ?_
        · rw [wrap_i64 (by omega) (by omega)]; omega
        · exact Fr.own1 (e5.trans E7) f8 (by omega)
        · have := E7.size; have := f8.size; omega
        · exact l7.fr f8 (by omega) (by omega) fun j hj => gmb j hj
        · intro j hj
          by_cases hji : j = i
          · subst hji
            simp only [if_true]
            exact ⟨v8, v7.fr f8 (by omega)⟩
          · simp only [hji, if_false]
            have q := f7.done j (by omega)
            have q2 := f5.rng j (by omega)
            have q3 := hB3 i hi'
            exact ⟨q.1.fr f8 (gne j (by omega) hji), q.2.fr f8 (by omega)⟩
        · intro j hj hjn
          exact (f7.todo j (by omega) hjn).fr f8 (gne j hjn (by omega))
        · intro j hj
          have hsz8 := f8.size
          by_cases hji : j = i
          · subst hji; simp only [if_true]; omega
          · simp only [hji, if_false]
            have q2 := f7.rng j (by omega)
            omega
        · intro j k hjk hk
          have hji : j ≠ i := by omega
          simp only [hji, if_false]
          by_cases hki : k = i
          · subst hki
            simp only [if_true]
            have q2 := f5.rng j (by omega)
            omega
          · simp only [hki, if_false]; exact f5.inc j k hjk (by omega)
        · exact (o5.ext E7).fr f8 fun a ha e => by have := (hrm _ ⟨a, ha, rfl⟩).1; omega
        · rw [wrap_i64 (by omega) (by omega)]; omega
      · have hin : i = ps.length := by have := of_decide_eq_false hge; omega
        subst hin
        have hd := fresh_drive l5 rfl w4.heap.size hB3 f5 ⟨hm3.1, hm3.2.1, hm3.2.2, s4⟩ o5 hrm hok4
        refine hOk gd _ w5 e5 hmade (by omega) (fun k hk => ?_) hd
        rcases hk with hk | hk | hk | hk | ⟨a, ha, hk⟩
        · omega
        · have : k = m := hk
          omega
        · obtain ⟨a, ha, _⟩ := hk; cases ha
        · exact (hrin k hk).1
        · obtain ⟨j, hj, rfl⟩ := List.mem_map.1 ha
          have hj' : j < ps.length := by simpa using hj
          have q1 := l5.rng j hj'
          have q2 := f5.rng j hj'
          rcases hk with hk | hk | hk <;> simp only at hk <;> omega
end Go.Proofs.YteopoodhclljjaaGreatDoor

/-! One10 -/
namespace Go.S
open Go Go.Eng
/-- A drive of one partition. -/
def one (name b : List UInt8) (bad : Int → Bool) (left : Int) (keep : List Bool) (down : Bool) (c n : Int) : Drv := ⟨[⟨name, b, bad⟩], left, keep, down, c, n⟩
section
variable {name b : List UInt8} {bad : Int → Bool} {left : Int} {keep : List Bool} {down : Bool} {c n : Int}
theorem at?_one : (one name b bad left keep down c n).at? name = some 0 := by
  unfold Drv.at? one
  rw [List.findIdx?_eq_some_iff_getElem]
  exact ⟨by simp, by simp, fun j hj => by omega⟩
theorem err_one {off len : Int} : (one name b bad left keep false c n).err name off len = if within off len b.length then 0 else 10 := by
  unfold Drv.err
  rw [at?_one]; rfl
theorem read_one {off len : Int} (h : within off len b.length = true) : (one name b bad left keep false c n).read name off len = if (Area.mk name b bad).badIn off len then ([], 41, one name b bad left keep false c n) else ((b.drop off.toNat).take len.toNat, 0, one name b bad left keep false (cap60 (c + 1)) (cap60 (n + len))) := by
  unfold Drv.read
  rw [err_one, h, at?_one]; rfl
theorem read_oneX {off len : Int} (h : within off len b.length = false) : (one name b bad left keep false c n).read name off len = ([], 10, one name b bad left keep false c n) := by
  unfold Drv.read
  rw [err_one, h]; rfl
theorem badIn_none {off len : Int} : (Area.mk name b (fun _ => false)).badIn off len = false := by unfold Area.badIn; simp
theorem write_one {off : Int} {bs : List UInt8} (h : within off bs.length b.length = true) (hl : left ≠ 0) : (one name b bad left keep false c n).write name off bs = (0, one name (over b bs off.toNat fun _ => true) bad (max (left - 1) (-1)) keep false c n) := by
  unfold Drv.write
  rw [err_one, h, at?_one]
  simp only [if_true, ne_eq, not_true_eq_false, if_false, Option.getD_some]
  rw [if_pos (show ¬ (one name b bad left keep false c n).left = 0 from hl)]; rfl
end
end Go.S
namespace Go.S
open Go Go.Eng
section
variable {name b : List UInt8} {bad : Int → Bool} {left : Int} {keep : List Bool} {down : Bool} {c n : Int}
theorem badS_one {s : Int} {on : Bool} : (one name b bad left keep down c n).badS name s on = if s < 0 ∨ s ≥ (b.length : Int) / 64 then (false, one name b bad left keep down c n) else (true, one name b (fun k => if k = s then on else bad k) left keep down c n) := by
  unfold Drv.badS
  rw [at?_one]; rfl
theorem turn_one {off : Int} {xs : List UInt8} : (one name b bad left keep down c n).turn name off xs = if within off xs.length b.length then (true, one name (xorAt b xs off.toNat) bad left keep down c n) else (false, one name b bad left keep down c n) := by
  unfold Drv.turn
  rw [at?_one]; rfl
end
end Go.S
namespace Go.Proofs.YteopoodhclljjaaGreatDoor
open Go Go.Eng
/-- 'drive.New([]drive.Part{{Name: .., Size: ..}})' -/
theorem newOne_s {name : List UInt8} {k : Int} {nm : ByteArray} {K : Option Addr → Int → World → Prop} {w : World} (hn : nm = str name) (hk : S.I64 k) (hl : name.length ≤ 9223372036854775807)
    (hBad : ∀ w', Ext w w' → S.made [(name, k)] ≠ 0 → K none (S.made [(name, k)]) w')
    (hOk : ∀ gd L w', Ext w w' → S.made [(name, k)] = 0 → w.heap.size ≤ gd → (∀ k, L.inD gd k → w.heap.size ≤ k) → DriveAt w' gd L (S.one name (List.replicate k.toNat 0) (fun _ => false) (-1) [] false 0 0) → K (some (at_ gd 0)) 0 w') :
    semS Tryz.prog (Instr.buildSlice 81 1 #[(0, (.agg #[(.string nm), (.int .i64 k)]))]) (.one .slc) (fun x w => callS Tryz.prog 26 #[.slice x.a x.len x.cap] [.one .ptr, .one (.int .i64)] K w) w := by
  subst hn
  refine buildSlice_i (pc (name, k)).toArray ?_ rfl (by omega) fun v w1 e1 o1 hvl => ?_
  · kernel_rfl
  · have hp : PartsIn w1 v [(name, k)] := by
      refine ⟨⟨by simpa using o1.rd, by simp [hvl], fun c hc => ?_⟩, fun p hp => ?_⟩
      · simp at hc; subst hc; rfl
      · simp at hp; subst hp; exact ⟨hk, hl⟩
    refine drvNew_s hp (fun w' e h => hBad w' (e1.trans e) h) fun gd L w' e h1 h2 h3 h4 => ?_
    have hs := e1.size
    exact hOk gd L w' (e1.trans e) h1 (by omega) (fun k hk => by have := h3 k hk; omega) h4
end Go.Proofs.YteopoodhclljjaaGreatDoor
