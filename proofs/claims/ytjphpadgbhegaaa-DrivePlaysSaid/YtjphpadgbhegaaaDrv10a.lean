/- Layer 10 (drive): a drive in memory; the small methods. -/
import Derived.Test.YtjphpadgbhegaaaSh
import Derived.Test.YtjphpadgbhegaaaTy
import Derived.Test.YtjphpadgbhegaaaSpan
import Derived.Test.YtjphpadgbhegaaaPure10
import Derived.Test.YtjphpadgbhegaaaLib6
set_option linter.unusedSimpArgs false
set_option linter.unusedVariables false
namespace Go.Proofs.Ytjphpadgbhegaaa
open Go Go.Eng

/-- Where an area lies: itself, its bytes, its bad sectors. -/
structure AL where
  g : Nat
  bb : Nat
  mb : Nat
instance : Inhabited AL := ⟨⟨0, 0, 0⟩⟩
structure Lay where
  ps : Sl
  m : Nat
  ks : Sl
  al : List AL
def AL.inA (a : AL) (k : Nat) : Prop := k = a.g ∨ k = a.bb ∨ k = a.mb
def Lay.inD (L : Lay) (gd k : Nat) : Prop := k = gd ∨ k = L.m ∨ L.ks.inB k ∨ L.ps.inB k ∨ ∃ a ∈ L.al, a.inA k
abbrev bSl (bb n : Nat) : Sl := ⟨some (at_ bb 0), n, n⟩
structure AreaAt (w : World) (a : AL) (A : S.Area) : Prop where
  var : Var w a.g [.slice (some (at_ a.bb 0)) A.b.length A.b.length, .map (some a.mb)]
  row : Var w a.bb (A.b.map vB)
  bad : MapAt w kInt Value.bool a.mb (fun k => if A.bad k then some true else none)
  ne : a.g ≠ a.bb ∧ a.g ≠ a.mb ∧ a.bb ≠ a.mb
  len : A.b.length ≤ 1048576
def dCells (L : Lay) (D : S.Drv) : List Value := [.slice L.ps.a L.ps.len L.ps.cap, .map (some L.m), .int .i64 D.left, .slice L.ks.a L.ks.len L.ks.cap, .bool D.down, .int .i64 D.count, .int .i64 D.bytes]
structure DriveAt (w : World) (gd : Nat) (L : Lay) (D : S.Drv) : Prop where
  var : Var w gd (dCells L D)
  map : MapAt w kStr vPtr L.m (fun name => (D.at? name).map fun i => at_ (L.al.getD i default).g 0)
  len : L.al.length = D.as.length
  areas : ∀ i, i < D.as.length → AreaAt w (L.al.getD i default) (D.ar i)
  apart : ∀ i j, i < D.as.length → j < D.as.length → i ≠ j → ∀ k, (L.al.getD i default).inA k → ¬ (L.al.getD j default).inA k
  keep : Rd w L.ks 1 (D.keep.map Value.bool)
  parts : Rd w L.ps 2 (D.as.flatMap fun a => [.string (str a.name), .int .i64 (a.b.length : Int)])
  gdm : gd ≠ L.m
  sepA : ∀ a ∈ L.al, ¬ a.inA gd ∧ ¬ a.inA L.m
  sepS : ∀ k, (L.ks.inB k ∨ L.ps.inB k) → k ≠ gd ∧ k ≠ L.m ∧ (∀ a ∈ L.al, ¬ a.inA k) ∧ k < w.heap.size
  okL : -1 ≤ D.left ∧ D.left ≤ 9223372036854775807
  okC : 0 ≤ D.count ∧ D.count ≤ 1152921504606846976
  okB : 0 ≤ D.bytes ∧ D.bytes ≤ 1152921504606846976
section
variable {w w' : World} {gd : Nat} {L : Lay} {D : S.Drv}
theorem al_mem {L : Lay} {i : Nat} (h : i < L.al.length) : L.al.getD i default ∈ L.al := by simp [h]
theorem AreaAt.lt {a : AL} {A : S.Area} (h : AreaAt w a A) {k : Nat} (hk : a.inA k) : k < w.heap.size := by
  rcases hk with rfl | rfl | rfl
  · exact h.var.lt
  · exact h.row.lt
  · exact h.bad.lt
theorem AreaAt.fr {T : Nat → Prop} {a : AL} {A : S.Area} (h : AreaAt w a A) (hf : Fr T w w') (hs : ∀ k, a.inA k → ¬ T k) : AreaAt w' a A :=
  ⟨h.var.fr hf (hs _ (.inl rfl)), h.row.fr hf (hs _ (.inr (.inl rfl))), h.bad.fr hf (hs _ (.inr (.inr rfl))), h.ne, h.len⟩
theorem DriveAt.lt (h : DriveAt w gd L D) {k : Nat} (hk : L.inD gd k) : k < w.heap.size := by
  rcases hk with rfl | rfl | hk | hk | ⟨a, ha, hk⟩
  · exact h.var.lt
  · exact h.map.lt
  · exact (h.sepS k (.inl hk)).2.2.2
  · exact (h.sepS k (.inr hk)).2.2.2
  · obtain ⟨i, hi⟩ := List.getElem?_of_mem ha
    have hl := (List.getElem?_eq_some_iff.1 hi).1
    have := h.areas i (by rw [← h.len]; exact hl)
    rw [show L.al.getD i default = a by simp [hi]] at this
    exact this.lt hk
theorem DriveAt.fr {S : Nat → Prop} (h : DriveAt w gd L D) (hf : Fr S w w') (hs : ∀ k, L.inD gd k → ¬ S k) : DriveAt w' gd L D := by
  refine ⟨h.var.fr hf (hs _ (.inl rfl)), h.map.fr hf (hs _ (.inr (.inl rfl))), h.len, fun i hi => (h.areas i hi).fr hf fun k hk => hs k (.inr (.inr (.inr (.inr ⟨_, al_mem (by rw [h.len]; exact hi), hk⟩)))), h.apart,
    h.keep.fr hf fun a ha => hs _ (.inr (.inr (.inl ⟨a, ha, rfl⟩))), h.parts.fr hf fun a ha => hs _ (.inr (.inr (.inr (.inl ⟨a, ha, rfl⟩)))), h.gdm, h.sepA, fun k hk => ?_, h.okL, h.okC, h.okB⟩
  obtain ⟨h1, h2, h3, h4⟩ := h.sepS k hk
  exact ⟨h1, h2, h3, Nat.lt_of_lt_of_le h4 hf.size⟩
theorem DriveAt.ext (h : DriveAt w gd L D) (hf : Ext w w') : DriveAt w' gd L D := h.fr hf fun _ _ => id
/-- The drive's own variable, turned. -/
theorem DriveAt.upVar {D' : S.Drv} (h : DriveAt w gd L D) (hf : Fr (fun k => k = gd) w w') (hv : Var w' gd (dCells L D')) (ha : D'.as = D.as) (hk : D'.keep = D.keep) (h1 : -1 ≤ D'.left ∧ D'.left ≤ 9223372036854775807) (h2 : 0 ≤ D'.count ∧ D'.count ≤ 1152921504606846976) (h3 : 0 ≤ D'.bytes ∧ D'.bytes ≤ 1152921504606846976) : DriveAt w' gd L D' := by
  have har : ∀ i, D'.ar i = D.ar i := fun i => by unfold S.Drv.ar; rw [ha]
  refine ⟨hv, (h.map.fr hf fun e => h.gdm e.symm).congr fun k => by rw [S.Drv.at?_congr ha], by rw [ha]; exact h.len, fun i hi => ?_, fun i j hi hj => h.apart i j (by rw [← ha]; exact hi) (by rw [← ha]; exact hj), ?_, ?_, h.gdm, h.sepA, fun k hk => ?_, h1, h2, h3⟩
  · rw [ha] at hi
    rw [har]
    exact (h.areas i hi).fr hf fun k hk e => (h.sepA _ (al_mem (by rw [h.len]; exact hi))).1 (e ▸ hk)
  · rw [hk]; exact h.keep.fr hf fun a ha e => (h.sepS _ (.inl ⟨a, ha, rfl⟩)).1 e
  · rw [ha]; exact h.parts.fr hf fun a ha e => (h.sepS _ (.inr ⟨a, ha, rfl⟩)).1 e
  · obtain ⟨h1, h2, h3, h4⟩ := h.sepS k hk
    exact ⟨h1, h2, h3, Nat.lt_of_lt_of_le h4 hf.size⟩
/-- One area, turned: its bytes, or its bad sectors. -/
theorem DriveAt.upArea {A : S.Area} {i : Nat} (h : DriveAt w gd L D) (hi : i < D.as.length) (hf : Fr (fun k => k = (L.al.getD i default).bb ∨ k = (L.al.getD i default).mb) w w') (hA : AreaAt w' (L.al.getD i default) A) (hn : A.name = (D.ar i).name) (hl : A.b.length = (D.ar i).b.length) : DriveAt w' gd L (D.set i A) := by
  have hm := al_mem (L := L) (i := i) (by rw [h.len]; exact hi)
  have hsep := h.sepA _ hm
  have hlen : (D.set i A).as.length = D.as.length := by simp [S.Drv.set]
  have hgd : ¬ (gd = (L.al.getD i default).bb ∨ gd = (L.al.getD i default).mb) := fun e => hsep.1 (e.elim (fun e => .inr (.inl e)) fun e => .inr (.inr e))
  have hmm : ¬ (L.m = (L.al.getD i default).bb ∨ L.m = (L.al.getD i default).mb) := fun e => hsep.2 (e.elim (fun e => .inr (.inl e)) fun e => .inr (.inr e))
  have hS : ∀ k, (L.ks.inB k ∨ L.ps.inB k) → ¬ (k = (L.al.getD i default).bb ∨ k = (L.al.getD i default).mb) := fun k hk e => (h.sepS k hk).2.2.1 _ hm (e.elim (fun e => .inr (.inl e)) fun e => .inr (.inr e))
  refine ⟨h.var.fr hf hgd, (h.map.fr hf hmm).congr fun k => by rw [S.Drv.at?_set hn], by rw [hlen]; exact h.len, fun j hj => ?_, fun a b ha hb => h.apart a b (by rw [← hlen]; exact ha) (by rw [← hlen]; exact hb), h.keep.fr hf fun a ha => hS _ (.inl ⟨a, ha, rfl⟩), ?_, h.gdm, h.sepA, fun k hk => ?_, h.okL, h.okC, h.okB⟩
  · rw [hlen] at hj
    by_cases hij : i = j
    · subst hij
      rw [show (D.set i A).ar i = A by simp [S.Drv.set, S.Drv.ar, hi]]
      exact hA
    · rw [show (D.set i A).ar j = D.ar j by simp [S.Drv.set, S.Drv.ar, hij]]
      exact (h.areas j hj).fr hf fun k hk e => h.apart i j hi hj hij k (e.elim (fun e => .inr (.inl e)) fun e => .inr (.inr e)) hk
  · have : ((D.set i A).as.flatMap fun a => [Value.string (str a.name), .int .i64 (a.b.length : Int)]) = D.as.flatMap fun a => [.string (str a.name), .int .i64 (a.b.length : Int)] := by
      have key : ∀ (l : List S.Area) (i : Nat), i < l.length → A.name = (l.getD i default).name → A.b.length = (l.getD i default).b.length → ((l.set i A).flatMap fun a => [Value.string (str a.name), .int .i64 (a.b.length : Int)]) = l.flatMap fun a => [.string (str a.name), .int .i64 (a.b.length : Int)] := by
        intro l
        induction l with
        | nil => intro i hi; simp at hi
        | cons x l ih =>
          intro i hi h1 h2
          cases i with
          | zero => simp at h1 h2; simp [h1, h2]
          | succ i => simp only [List.set_cons_succ, List.flatMap_cons]; rw [ih i (by simpa using hi) (by simpa using h1) (by simpa using h2)]
      exact key D.as i hi hn hl
    rw [this]
    exact h.parts.fr hf fun a ha => hS _ (.inr ⟨a, ha, rfl⟩)
  · obtain ⟨h1, h2, h3, h4⟩ := h.sepS k hk
    exact ⟨h1, h2, h3, Nat.lt_of_lt_of_le h4 hf.size⟩
end
section
variable {w : World} {gd : Nat} {L : Lay} {D : S.Drv}
/-- 'd.areas[name]' -/
theorem area_look {name : ByteArray} {K : Option Addr → World → Prop} (h : DriveAt w gd L D) (hK : K ((D.at? name.toList).map fun i => at_ (L.al.getD i default).g 0) w) :
    semS Try.prog (Instr.loadAt 61 (.pointer (some (at_ gd 1)))) (.one .mp) (fun x w => semS Try.prog (Instr.lookup 61 (.map x) (.string name) false) (.one .ptr) K w) w := by
  refine ld1_i (l := .mp) (o := 1) (some L.m) h.var rfl ?_
  refine look_i (lf := .ptr) _ h.map (show Value.string name = kStr name.toList by rw [kStr, str_of]) ?_ hK
  cases D.at? name.toList <;> rfl
theorem area_ptr {D : S.Drv} {name : List UInt8} : (D.at? name).map (fun i => at_ (L.al.getD i default).g 0) = none ↔ D.at? name = none := by simp
theorem area_at {name : List UInt8} {i : Nat} (h : DriveAt w gd L D) (hi : D.at? name = some i) : AreaAt w (L.al.getD i default) (D.ar i) := h.areas i (S.Drv.at?_lt hi)
theorem AreaAt.rd {a : AL} {A : S.Area} (h : AreaAt w a A) : Bts w (bSl a.bb A.b.length) A.b :=
  ⟨by simp [bSl], Nat.le_refl _, (fun h => by cases h), fun x hx i v hv => by
    obtain rfl : at_ a.bb 0 = x := Option.some.inj hx
    rw [at_add, Nat.zero_add]; exact h.row.cell hv⟩
theorem dSize_s {name : ByteArray} {K : Int → Int → World → Prop} (h : DriveAt w gd L D) (hK : K (D.size name.toList).1 (D.size name.toList).2 w) :
    callS Try.prog 21 #[.pointer (some (at_ gd 0)), .string name] [.one (.int .i64), .one (.int .i64)] K w := by
  refine f21_ok ?_
  unfold f21
  refine nil_i rfl ?_
  refine area_look h ?_
  refine ptrNe_i ?_
  unfold S.Drv.size at hK
  cases hi : D.at? name.toList with
  | none => rw [hi] at hK; exact hK
  | some i =>
    rw [hi] at hK
    have ha := area_at h hi
    refine cond_i (fun _ => ?_) (fun h => by cases h)
    refine nil_i rfl ?_
    exact ld1_i (l := .slc) (o := 0) (bSl (L.al.getD i default).bb (D.ar i).b.length) ha.var rfl hK
theorem dDown_s {K : Bool → World → Prop} (h : DriveAt w gd L D) (hK : K D.down w) : callS Try.prog 17 #[.pointer (some (at_ gd 0))] [.one .bool] K w := by
  refine f17_ok ?_
  unfold f17
  refine nil_i rfl ?_
  exact ld1_i (l := .bool) (o := 4) D.down h.var rfl hK
theorem dReads_s {K : Int → Int → World → Prop} (h : DriveAt w gd L D) (hK : K D.count D.bytes w.drew) : callS Try.prog 15 #[.pointer (some (at_ gd 0))] [.one (.int .i64), .one (.int .i64)] K w := by
  refine f15_ok ?_
  unfold f15
  refine ⟨fun x => Ext w x, Ext.drew _, ?_⟩
  refine nil_i rfl ?_
  refine ld1Q_i (l := .int .i64) (o := 5) D.count (fun x hx => (h.ext hx).var) rfl ?_
  refine nil_i rfl ?_
  exact ld1Q_i (l := .int .i64) (o := 6) D.bytes (fun x hx => (h.ext hx).var) rfl hK
theorem dBoot_s {K : World → Prop} (h : DriveAt w gd L D) (hK : ∀ w', Fr (fun k => k = gd) w w' → DriveAt w' gd L D.boot → K w') : callS Try.prog 13 #[.pointer (some (at_ gd 0))] [] K w := by
  refine f13_ok ?_
  unfold f13
  refine nil_i rfl ?_
  refine st1_i (o := 2) h.var (by simp [dCells]) rfl fun w1 f1 v1 => ?_
  refine nil_i rfl ?_
  refine st1_i (o := 4) v1 (by simp [dCells]) rfl fun w2 f2 v2 => ?_
  exact hK w2 (f1.trans' f2) (h.upVar (f1.trans' f2) v2 rfl rfl ⟨(by show (-1 : Int) ≤ -1; decide), (by show (-1 : Int) ≤ 9223372036854775807; decide)⟩ h.okC h.okB)
theorem bool_one {xs : List Bool} : ∀ v ∈ xs.map Value.bool, v.oneCell' = true := fun v hv => by obtain ⟨x, _, rfl⟩ := List.mem_map.1 hv; rfl
theorem cloneB_s {s : Sl} {cs : List Value} {K : Sl → World → Prop} {w : World} (hs : Rd w s 1 cs) (h1 : ∀ v ∈ cs, v.oneCell' = true) (hlen : s.len ≤ 68719476736) (hK : ∀ v w', Ext w w' → Own w' w.heap.size v 1 cs → K v w') :
    callS Try.prog 27 #[.slice s.a s.len s.cap] [.one .slc] K w :=
  f27_ok (clone_shape hs h1 hlen fun v w' h1 h2 _ => hK v w' h1 h2)
theorem dArm_s {n : Int} {s : Sl} {ks : List Bool} {K : World → Prop} (h : DriveAt w gd L D) (hn : S.I64 n) (hs : Rd w s 1 (ks.map Value.bool)) (hl : ks.length ≤ 68719476736)
    (hK : ∀ w' L', Fr (fun k => k = gd) w w' → DriveAt w' gd L' (D.arm n ks) → (∀ k, L'.inD gd k → L.inD gd k ∨ w.heap.size ≤ k) → L'.al = L.al → K w') :
    callS Try.prog 12 #[.pointer (some (at_ gd 0)), .int .i64 n, .slice s.a s.len s.cap] [] K w := by
  refine f12_ok ?_
  unfold f12
  have hsl : s.len = ks.length := by have := hs.len; simp at this; omega
  refine cloneB_s hs bool_one (by omega) fun r w1 e1 o1 => ?_
  have h1 := h.ext e1
  refine nil_i rfl ?_
  refine st1_i (o := 2) h1.var (by simp [dCells]) rfl fun w2 f2 v2 => ?_
  refine nil_i rfl ?_
  refine st1_i (o := 3) v2 (by simp [dCells]) rfl fun w3 f3 v3 => ?_
  have f13 := f2.trans' f3
  have hr : ∀ k, r.inB k → w.heap.size ≤ k ∧ k < w1.heap.size := fun k hk => o1.inB hk
  have hm : (if (-1) > n then (-1) else n) = max n (-1) := by omega
  have hr0 : ∀ k, r.inB k → ¬ L.inD gd k := fun k hk hd => by have := h.lt hd; have := (hr k hk).1; omega
  have hd : DriveAt w3 gd { L with ks := r } (D.arm n ks) := by
    refine ⟨?_, h1.map.fr f13 fun e => h.gdm e.symm, h.len, fun i hi => (h1.areas i hi).fr f13 fun k hk e => (h.sepA _ (al_mem (by rw [h.len]; exact hi))).1 (e ▸ hk), h.apart, ?_, h1.parts.fr f13 fun a ha e => (h.sepS _ (.inr ⟨a, ha, rfl⟩)).1 e, h.gdm, h.sepA, fun k hk => ?_, ⟨by simp only [S.Drv.arm]; omega, by simp only [S.Drv.arm]; omega⟩, h.okC, h.okB⟩
    · rw [hm] at v3; exact v3
    · exact o1.rd.fr f13 fun a ha e => hr0 _ ⟨a, ha, rfl⟩ (.inl e)
    · rcases hk with hk | hk
      · refine ⟨fun e => hr0 k hk (.inl e), fun e => hr0 k hk (.inr (.inl e)), fun a ha hka => hr0 k hk (.inr (.inr (.inr (.inr ⟨a, ha, hka⟩)))), ?_⟩
        have := (hr k hk).2; have := f13.size; omega
      · obtain ⟨q1, q2, q3, q4⟩ := h.sepS k (.inr hk)
        exact ⟨q1, q2, q3, by have := e1.size; have := f13.size; omega⟩
  refine hK w3 _ (e1.fr.trans' f13) hd (fun k hk => ?_) rfl
  rcases hk with hk | hk | hk | hk | hk
  · exact .inl (.inl hk)
  · exact .inl (.inr (.inl hk))
  · exact .inr (hr k hk).1
  · exact .inl (.inr (.inr (.inr (.inl hk))))
  · exact .inl (.inr (.inr (.inr (.inr hk))))
theorem dSectors_s {off len : Int} {K : Int → Int → World → Prop} (h0 : 0 ≤ off) (h1 : 0 ≤ len) (h2 : off + len ≤ 1048576) (hK : K (off / 64) (S.nS off len) w) : callS Try.prog 25 #[.int .i64 off, .int .i64 len] [.one (.int .i64), .one (.int .i64)] K w := by
  refine f25_ok ?_
  unfold f25
  have e1 : IntKind.wrap .i64 (Int.tdiv off 64) = off / 64 := by rw [Int.tdiv_eq_ediv_of_nonneg h0, wrap_i64 (by omega) (by omega)]
  unfold S.nS at hK
  refine cond_i (fun h => ?_) (fun h => ?_)
  · rw [if_pos (by simpa using h)] at hK
    rw [e1]; exact hK
  · rw [if_neg (by simpa using h)] at hK
    have hl : len ≠ 0 := by simpa using h
    have e2 : IntKind.wrap .i64 (IntKind.wrap .i64 (off + len) - 1) = off + len - 1 := by rw [wrap_i64 (x := off + len) (by omega) (by omega), wrap_i64 (by omega) (by omega)]
    have e3 : IntKind.wrap .i64 (Int.tdiv (off + len - 1) 64) = (off + len - 1) / 64 := by rw [Int.tdiv_eq_ediv_of_nonneg (by omega), wrap_i64 (by omega) (by omega)]
    rw [e1, e2, e3, wrap_i64 (x := (off + len - 1) / 64 - off / 64) (by omega) (by omega), wrap_i64 (x := (off + len - 1) / 64 - off / 64 + 1) (by omega) (by omega)]
    exact hK
theorem dFind_s {name : ByteArray} {off len : Int} {K : Option Addr → Int → World → Prop} (h : DriveAt w gd L D) (ho : S.I64 off) (hl : S.I64 len)
    (hK : K (if D.err name.toList off len = 0 then (D.at? name.toList).map (fun i => at_ (L.al.getD i default).g 0) else none) (D.err name.toList off len) w) :
    callS Try.prog 24 #[.pointer (some (at_ gd 0)), .string name, .int .i64 off, .int .i64 len] [.one .ptr, .one (.int .i64)] K w := by
  refine f24_ok ?_
  unfold f24
  refine nil_i rfl ?_
  refine area_look h ?_
  refine nil_i rfl ?_
  refine ld1_i (l := .bool) (o := 4) D.down h.var rfl ?_
  unfold S.Drv.err at hK
  refine cond_i (fun hd => ?_) (fun hd => ?_)
  · rw [hd] at hK; exact hK
  · rw [hd] at hK
    refine ptrEq_i ?_
    cases hi : D.at? name.toList with
    | none => rw [hi] at hK; exact hK
    | some i =>
      rw [hi] at hK
      have ha := area_at h hi
      refine cond_i (fun h => by cases h) (fun _ => ?_)
      refine nil_i rfl ?_
      refine ld1_i (l := .slc) (o := 0) (bSl (L.al.getD i default).bb (D.ar i).b.length) ha.var rfl ?_
      have hal := ha.len
      refine within_s ho hl ⟨by simp only; omega, by simp only; omega⟩ ?_
      simp only [Bool.false_eq_true, if_false] at hK
      refine cond_i (fun hw => ?_) (fun hw => ?_)
      · have hw' : S.within off len ((D.ar i).b.length : Int) = false := by simpa using hw
        rw [hw'] at hK; exact hK
      · have hw' : S.within off len ((D.ar i).b.length : Int) = true := by simpa using hw
        rw [hw'] at hK; exact hK
end
end Go.Proofs.Ytjphpadgbhegaaa
