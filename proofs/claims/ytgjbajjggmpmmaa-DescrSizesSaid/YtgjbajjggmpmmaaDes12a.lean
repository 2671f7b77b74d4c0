/- Layer 12 (descr): a descriptor in memory; is it right? (the program's way and the document's) -/
import Derived.Test.YtgjbajjggmpmmaaPure12
import Derived.Test.YtgjbajjggmpmmaaPlc08a
import Derived.Test.YtgjbajjggmpmmaaLib7
import Derived.Test.YtgjbajjggmpmmaaSpan
set_option linter.unusedSimpArgs false
set_option linter.unusedVariables false
namespace Go.Proofs.Ytgjbajjggmpmmaa
open Go Go.Eng
/-- A descriptor as a Go value: its texts' slices beside their bytes. -/
structure DM where
  kind : Int
  alg : Int
  size : Int
  blk : Int
  off : Int
  loc : Int
  name : List UInt8
  salt : Sl × List UInt8
  dig : Sl × List UInt8
  key : Sl × List UInt8
  val : Sl × List UInt8
def DM.pure (d : DM) : S.Des := ⟨d.kind, d.alg, d.size, d.blk, d.off, d.loc, d.name, d.salt.2, d.dig.2, d.key.2, d.val.2⟩
def DM.cells (d : DM) : List Value := [.int .i64 d.kind, .int .i64 d.alg, .int .i64 d.size, .int .i64 d.blk, .int .i64 d.off, .int .i64 d.loc, .string (str d.name), slV d.salt.1, slV d.dig.1, slV d.key.1, slV d.val.1]
structure DM.Ok (w : World) (d : DM) : Prop where
  kind : S.I64 d.kind
  alg : S.I64 d.alg
  size : S.I64 d.size
  blk : S.I64 d.blk
  off : S.I64 d.off
  loc : S.I64 d.loc
  name : d.name.length ≤ 9223372036854775807
  salt : Bts w d.salt.1 d.salt.2
  dig : Bts w d.dig.1 d.dig.2
  key : Bts w d.key.1 d.key.2
  val : Bts w d.val.1 d.val.2
theorem DM.Ok.fr {S : Nat → Prop} {w w' : World} {d : DM} (h : d.Ok w) (f : Fr S w w') (hs : ∀ k, (d.salt.1.inB k ∨ d.dig.1.inB k ∨ d.key.1.inB k ∨ d.val.1.inB k) → ¬ S k) : d.Ok w' :=
  ⟨h.kind, h.alg, h.size, h.blk, h.off, h.loc, h.name, h.salt.fr f fun a ha => hs _ (.inl ⟨a, ha, rfl⟩), h.dig.fr f fun a ha => hs _ (.inr (.inl ⟨a, ha, rfl⟩)), h.key.fr f fun a ha => hs _ (.inr (.inr (.inl ⟨a, ha, rfl⟩))), h.val.fr f fun a ha => hs _ (.inr (.inr (.inr ⟨a, ha, rfl⟩)))⟩
theorem DM.Ok.ext {w w' : World} {d : DM} (h : d.Ok w) (e : Ext w w') : d.Ok w' := h.fr e fun _ _ h => h
/-- Short texts. -/
structure DM.Sm (d : DM) : Prop where
  name : d.name.length ≤ 100000
  salt : d.salt.2.length ≤ 100000
  dig : d.dig.2.length ≤ 100000
  key : d.key.2.length ≤ 100000
  val : d.val.2.length ≤ 100000
abbrev lD : List Lf := [.int .i64, .int .i64, .int .i64, .int .i64, .int .i64, .int .i64, .str, .slc, .slc, .slc, .slc]
theorem DM.one (d : DM) : ∀ v ∈ d.cells, v.oneCell' = true := fun v hv => by
  simp only [DM.cells, List.mem_cons, List.not_mem_nil, or_false] at hv
  rcases hv with rfl | rfl | rfl | rfl | rfl | rfl | rfl | rfl | rfl | rfl | rfl <;> rfl
section
variable {P : Program} {w : World} {t g : Nat}
theorem ldD_i [AggTy P t 11] {d : DM} {K : Int → Int → Int → Int → Int → Int → ByteArray → Sl → Sl → Sl → Sl → World → Prop} (hv : Var w g d.cells) (hK : K d.kind d.alg d.size d.blk d.off d.loc (str d.name) d.salt.1 d.dig.1 d.key.1 d.val.1 w) :
    semS P (Instr.loadAt t (.pointer (some (at_ g 0)))) (.agg lD) K w :=
  ldV_i (n := 11) (ls := lD) 0 hv (Nat.le_refl 11) hK
theorem ldDQ_i [AggTy P t 11] {d : DM} {C : World → Prop} {K : Int → Int → Int → Int → Int → Int → ByteArray → Sl → Sl → Sl → Sl → Prop} (hv : ∀ w, C w → Var w g d.cells) (hK : K d.kind d.alg d.size d.blk d.off d.loc (str d.name) d.salt.1 d.dig.1 d.key.1 d.val.1) :
    semQ P C (Instr.loadAt t (.pointer (some (at_ g 0)))) (.agg lD) K :=
  ldVQ_i (n := 11) (ls := lD) 0 hv (Nat.le_refl 11) hK
theorem stD_i [AggTy P t 11] {d : DM} {cs : List Value} {K : World → Prop} (hv : Var w g cs) (hl : cs.length = 11) (hK : ∀ w', Fr (fun k => k = g) w w' → Var w' g d.cells → K w') :
    semU P (Instr.storeAt t (.pointer (some (at_ g 0))) (.agg d.cells.toArray)) K w :=
  stV_i (n := 11) (vs := d.cells) 0 hv rfl (by omega) d.one fun w' h1 h2 => hK w' h1 (by simpa [List.drop_of_length_le (Nat.le_of_eq hl)] using h2)
theorem resD_i [AggTy P t 11] {d : DM} {K : Int → Int → Int → Int → Int → Int → ByteArray → Sl → Sl → Sl → Sl → World → Prop} (hv : Var w g d.cells) (hK : K d.kind d.alg d.size d.blk d.off d.loc (str d.name) d.salt.1 d.dig.1 d.key.1 d.val.1 w) :
    ∃ v, (loadVar t (at_ g 0)).run P w = .ok v w ∧ decR [.agg lD] v K fun r => r w :=
  resV_i (n := 11) hv rfl hK
end
/-- A descriptor without what its kind names. -/
def DM.bare (d : DM) : DM :=
  if d.kind = 0 then { d with name := [], val := (Sl.nil, []) }
  else if d.kind = 1 then { d with blk := 0, off := 0, alg := 0, size := 0, name := [], salt := (Sl.nil, []), dig := (Sl.nil, []) }
  else if d.kind = 2 then { d with alg := 0, size := 0, name := [], salt := (Sl.nil, []), dig := (Sl.nil, []) }
  else if d.kind = 3 then { d with val := (Sl.nil, []) }
  else if d.kind = 4 then { d with loc := 0, name := [], key := (Sl.nil, []) }
  else d
def DM.nothing (d : DM) : Bool := d.alg == 0 && d.size == 0 && d.blk == 0 && d.off == 0 && d.loc == 0 && d.name == [] && decide (d.salt.2.length + d.dig.2.length + d.key.2.length + d.val.2.length = 0)
theorem dsz_s {a : Int} {K : Int → World → Prop} {w : World} (hK : K (S.dsz a) w) : callS Try.prog 23 #[.int .i64 a] [.one (.int .i64)] K w := by
  refine f23_ok ?_
  unfold f23
  unfold S.dsz at hK
  refine cond_i (fun h => by rw [if_pos h] at hK; exact hK) (fun h => ?_)
  rw [if_neg (by simp [h])] at hK
  refine cond_i (fun h => by rw [if_pos h] at hK; exact hK) (fun h => ?_)
  rw [if_neg (by simp [h])] at hK; exact hK
theorem rdsz_s {a : Int} {K : Int → World → Prop} {w : World} (hK : K (S.dsz a) w) : callS Try.prog 27 #[.int .i64 a] [.one (.int .i64)] K w := by
  refine f27_ok ?_
  unfold f27
  unfold S.dsz at hK
  refine cond_i (fun h => by rw [if_pos h] at hK; exact hK) (fun h => ?_)
  rw [if_neg (by simp [h])] at hK
  refine cond_i (fun h => by rw [if_pos h] at hK; exact hK) (fun h => ?_)
  rw [if_neg (by simp [h])] at hK; exact hK
theorem nil_str : (ByteArray.mk #[]) = str [] := rfl
theorem nil_toList : (ByteArray.mk #[]).toList = [] := str_toList []
theorem bare_s {d : DM} {K : Int → Int → Int → Int → Int → Int → ByteArray → Sl → Sl → Sl → Sl → World → Prop} {w : World} (hK : ∀ w', Ext w w' → K d.bare.kind d.bare.alg d.bare.size d.bare.blk d.bare.off d.bare.loc (str d.bare.name) d.bare.salt.1 d.bare.dig.1 d.bare.key.1 d.bare.val.1 w') :
    callS Try.prog 20 #[.agg d.cells.toArray] [.agg lD] K w := by
  refine f20_ok ?_
  unfold f20
  refine box_i fun g w1 e1 hg v1 => ?_
  have v1 : Var w1 g d.cells := v1
  refine alloc_i fun g2 w2 e2 hg2 v2 => ?_
  have v1 := v1.ext e2
  have hgl : g < w1.heap.size := by have := ‹Var w1 g (Value.cells _).toList›.lt; exact this
  have hne : g ≠ g2 := by omega
  have E2 := e1.trans e2
  have s1 := e1.size
  have fin : ∀ (d' : DM) (w3 : World), Fr (fun k => k = g) w2 w3 → Var w3 g d'.cells → d' = d.bare → semS Try.prog (Instr.loadAt 27 (.pointer (some (at_ g 0)))) (.agg lD) (fun x5 x6 x7 x8 x9 x10 x11 x12 x13 x14 x15 w =>
      semU Try.prog (Instr.storeAt 27 (.pointer (some (at_ g2 0))) (.agg #[(.int .i64 x5), (.int .i64 x6), (.int .i64 x7), (.int .i64 x8), (.int .i64 x9), (.int .i64 x10), (.string x11), (.slice x12.a x12.len x12.cap), (.slice x13.a x13.len x13.cap), (.slice x14.a x14.len x14.cap), (.slice x15.a x15.len x15.cap)])) (fun w =>
      ∃ v16, (loadVar 27 (at_ g2 0)).run Try.prog w = .ok v16 w ∧ decR [(.agg [(.int .i64), (.int .i64), (.int .i64), (.int .i64), (.int .i64), (.int .i64), .str, .slc, .slc, .slc, .slc])] v16 K fun r => r w) w) w3 := fun d' w3 f3 v3 hd => by
    refine ldD_i v3 ?_
    refine stD_i (d := d') (v2.fr f3 fun e => hne e.symm) rfl fun w4 f4 v4 => ?_
    refine resD_i v4 ?_
    subst hd
    exact hK w4 (Fr.own1 (Fr.own1 E2 f3 hg) f4 (by omega))
  refine ld1_i (l := .int .i64) (o := 0) d.kind v1 rfl ?_
  refine join_i (fun _ w' => ∃ b o, Fr (fun k => k = g) w2 w' ∧ Var w' g (DM.cells { d with blk := b, off := o }) ∧ { d with blk := b, off := o, alg := 0, size := 0, name := [], salt := (Sl.nil, []), dig := (Sl.nil, []) } = d.bare) ?_ fun J hJ => ?_
  · rintro _ w3 ⟨b, o, f3, v3, hb⟩
    refine st1_i (o := 1) v3 (show 1 < 11 by decide) rfl fun w4 f4 v4 => ?_
    refine st1_i (o := 2) v4 (show 2 < 11 by decide) rfl fun w5 f5 v5 => ?_
    refine st1_i (o := 6) v5 (show 6 < 11 by decide) rfl fun w6 f6 v6 => ?_
    refine st1_i (o := 7) v6 (show 7 < 11 by decide) rfl fun w7 f7 v7 => ?_
    refine st1_i (o := 8) v7 (show 8 < 11 by decide) rfl fun w8 f8 v8 => ?_
    exact fin _ w8 (((((f3.trans' f4).trans' f5).trans' f6).trans' f7).trans' f8) (show Var w8 g (DM.cells { d with blk := b, off := o, alg := 0, size := 0, name := [], salt := (Sl.nil, []), dig := (Sl.nil, []) }) from v8) hb
  refine cond_i (fun h0 => ?_) (fun h0 => ?_)
  · have hk : d.kind = 0 := by simpa using h0
    refine st1_i (o := 6) v1 (show 6 < 11 by decide) rfl fun w3 f3 v3 => ?_
    refine st1_i (o := 10) v3 (show 10 < 11 by decide) rfl fun w4 f4 v4 => ?_
    exact fin _ w4 (f3.trans' f4) (show Var w4 g (DM.cells { d with name := [], val := (Sl.nil, []) }) from v4) (by unfold DM.bare; rw [if_pos hk])
  have k0 : ¬ d.kind = 0 := by simpa using h0
  refine cond_i (fun h1 => ?_) (fun h1 => ?_)
  · have hk : d.kind = 1 := by simpa using h1
    refine st1_i (o := 3) v1 (show 3 < 11 by decide) rfl fun w3 f3 v3 => ?_
    refine st1_i (o := 4) v3 (show 4 < 11 by decide) rfl fun w4 f4 v4 => ?_
    exact hJ _ _ ⟨0, 0, f3.trans' f4, v4, by unfold DM.bare; rw [if_neg k0, if_pos hk]⟩
  have k1 : ¬ d.kind = 1 := by simpa using h1
  refine cond_i (fun h2 => ?_) (fun h2 => ?_)
  · have hk : d.kind = 2 := by simpa using h2
    exact hJ _ _ ⟨d.blk, d.off, Fr.refl _ _, v1, by unfold DM.bare; rw [if_neg k0, if_neg k1, if_pos hk]⟩
  have k2 : ¬ d.kind = 2 := by simpa using h2
  refine cond_i (fun h3 => ?_) (fun h3 => ?_)
  · have hk : d.kind = 3 := by simpa using h3
    refine st1_i (o := 10) v1 (show 10 < 11 by decide) rfl fun w4 f4 v4 => ?_
    exact fin _ w4 f4 (show Var w4 g (DM.cells { d with val := (Sl.nil, []) }) from v4) (by unfold DM.bare; rw [if_neg k0, if_neg k1, if_neg k2, if_pos hk])
  have k3 : ¬ d.kind = 3 := by simpa using h3
  refine cond_i (fun h4 => ?_) (fun h4 => ?_)
  · have hk : d.kind = 4 := by simpa using h4
    refine st1_i (o := 5) v1 (show 5 < 11 by decide) rfl fun w3 f3 v3 => ?_
    refine st1_i (o := 6) v3 (show 6 < 11 by decide) rfl fun w4 f4 v4 => ?_
    refine st1_i (o := 9) v4 (show 9 < 11 by decide) rfl fun w5 f5 v5 => ?_
    exact fin _ w5 ((f3.trans' f4).trans' f5) (show Var w5 g (DM.cells { d with loc := 0, name := [], key := (Sl.nil, []) }) from v5) (by unfold DM.bare; rw [if_neg k0, if_neg k1, if_neg k2, if_neg k3, if_pos hk])
  have k4 : ¬ d.kind = 4 := by simpa using h4
  exact fin d w2 (Fr.refl _ _) v1 (by unfold DM.bare; rw [if_neg k0, if_neg k1, if_neg k2, if_neg k3, if_neg k4])
/-- The loads of a descriptor's parts. -/
theorem ldI {w : World} {g : Nat} {d : DM} (v : Var w g d.cells) (o : Nat) {x : Int} {K : Int → World → Prop} (hx : d.cells[o]? = some (.int .i64 x)) (h : K x w) : semS Try.prog (Instr.loadAt 3 (.pointer (some (at_ g o)))) (.one (.int .i64)) K w := ld1_i (l := .int .i64) (o := o) x v hx h
theorem ldS {w : World} {g : Nat} {d : DM} (v : Var w g d.cells) (o : Nat) {x : Sl} {K : Sl → World → Prop} (hx : d.cells[o]? = some (slV x)) (h : K x w) : semS Try.prog (Instr.loadAt 25 (.pointer (some (at_ g o)))) (.one .slc) K w := ld1_i (l := .slc) (o := o) x v hx h
theorem ldN {w : World} {g : Nat} {d : DM} (v : Var w g d.cells) {K : ByteArray → World → Prop} (h : K (str d.name) w) : semS Try.prog (Instr.loadAt 9 (.pointer (some (at_ g 6)))) (.one .str) K w := ld1_i (l := .str) (o := 6) (str d.name) v rfl h
theorem nothing_s {d : DM} {K : Bool → World → Prop} {w : World} (hl : d.salt.1.len = d.salt.2.length ∧ d.dig.1.len = d.dig.2.length ∧ d.key.1.len = d.key.2.length ∧ d.val.1.len = d.val.2.length) (hs : d.Sm) (hK : ∀ w', Ext w w' → K d.nothing w') :
    callS Try.prog 21 #[.agg d.cells.toArray] [.one .bool] K w := by
  refine f21_ok ?_
  unfold f21
  refine box_i fun g w1 e1 hg v1 => ?_
  have v1 : Var w1 g d.cells := v1
  refine ldI v1 1 rfl ?_
  refine joinAnd (x := d.size == 0) (fun w2 e2 => ?_) fun J hJ _ => ldI v1 2 rfl (hJ _ (Fr.refl _ _))
  refine joinAnd (x := d.blk == 0) (fun w3 e3 => ?_) fun J hJ _ => ldI (v1.ext e2) 3 rfl (hJ _ (Fr.refl _ _))
  have e23 := e2.trans e3
  refine joinAnd (x := d.off == 0) (fun w4 e4 => ?_) fun J hJ _ => ldI (v1.ext e23) 4 rfl (hJ _ (Fr.refl _ _))
  have e24 := e23.trans e4
  refine joinAnd (x := d.loc == 0) (fun w5 e5 => ?_) fun J hJ _ => ldI (v1.ext e24) 5 rfl (hJ _ (Fr.refl _ _))
  have e25 := e24.trans e5
  refine joinAnd (x := d.name == []) (fun w6 e6 => ?_) fun J hJ _ => ldN (v1.ext e25) (by rw [str_toList, nil_toList]; exact hJ _ (Fr.refl _ _))
  have e26 := e25.trans e6
  refine joinAnd (x := decide (d.salt.2.length + d.dig.2.length + d.key.2.length + d.val.2.length = 0)) (fun w7 e7 => hK w7 (e1.trans (e26.trans e7))) fun J hJ _ => ?_
  refine ldS (v1.ext e26) 7 rfl (ldS (v1.ext e26) 8 rfl (ldS (v1.ext e26) 9 rfl (ldS (v1.ext e26) 10 rfl ?_)))
  obtain ⟨h1, h2, h3, h4⟩ := hl
  have q1 := hs.salt
  have q2 := hs.dig
  have q3 := hs.key
  have q4 := hs.val
  have := hJ _ (Fr.refl (fun _ => False) w6)
  have e : (IntKind.wrap .i64 ((IntKind.wrap .i64 ((IntKind.wrap .i64 ((d.salt.1.len : Int) + (d.dig.1.len : Int))) + (d.key.1.len : Int))) + (d.val.1.len : Int)) == 0) = decide (d.salt.2.length + d.dig.2.length + d.key.2.length + d.val.2.length = 0) := by
    rw [wrap_i64 (x := (d.salt.1.len : Int) + (d.dig.1.len : Int)) (by omega) (by omega), wrap_i64 (x := (d.salt.1.len : Int) + (d.dig.1.len : Int) + (d.key.1.len : Int)) (by omega) (by omega), wrap_i64 (by omega) (by omega), Bool.eq_iff_iff, beq_iff_eq, decide_eq_true_eq]
    omega
  rw [← e] at this
  exact this
theorem digest_s {d : DM} {K : Bool → World → Prop} {w : World} (hl : d.salt.1.len = d.salt.2.length ∧ d.dig.1.len = d.dig.2.length) (hK : ∀ w', Ext w w' → K d.pure.summed w') :
    callS Try.prog 24 #[.agg d.cells.toArray] [.one .bool] K w := by
  refine f24_ok ?_
  unfold f24
  refine box_i fun g w1 e1 hg v1 => ?_
  have v1 : Var w1 g d.cells := v1
  have hd := Ext.drew w1
  have E := e1.trans hd
  have hz : (S.dsz d.alg != 0) = (d.alg == 1 || d.alg == 2) := by unfold S.dsz; by_cases h1 : d.alg = 1 <;> by_cases h2 : d.alg = 2 <;> simp [h1, h2]
  have hK' := hK _ E
  unfold S.Des.summed at hK'
  refine ⟨fun y => Ext w1 y, hd, ?_⟩
  refine ld1Q_i (l := .int .i64) (o := 1) d.alg (fun y hy => v1.ext hy) rfl ?_
  refine dsz_s ?_
  refine more_i hd ?_
  rw [hz]
  have ha : d.pure.alg = d.alg := rfl
  rw [ha] at hK'
  refine cond_i (fun h => ?_) (fun h => ?_)
  · rw [h, Bool.true_and] at hK'
    refine ld1Q_i (l := .slc) (o := 8) d.dig.1 (fun y hy => v1.ext hy) rfl ?_
    refine ld1Q_i (l := .int .i64) (o := 1) d.alg (fun y hy => v1.ext hy) rfl ?_
    refine dsz_s ?_
    refine more_i hd ?_
    have e2 : ((d.dig.1.len : Int) == S.dsz d.alg) = decide ((d.pure.dig.length : Int) = S.dsz d.alg) := by
      rw [hl.2, Bool.eq_iff_iff, beq_iff_eq, decide_eq_true_eq]; rfl
    rw [e2]
    refine cond_i (fun h2 => ?_) (fun h2 => ?_)
    · rw [h2, Bool.true_and] at hK'
      refine ld1Q_i (l := .slc) (o := 7) d.salt.1 (fun y hy => v1.ext hy) rfl ?_
      rw [show decide ((d.salt.1.len : Int) ≤ 64) = decide (d.pure.salt.length ≤ 64) from decide_eq_decide.2 (by rw [hl.1]; show (d.salt.2.length : Int) ≤ 64 ↔ d.salt.2.length ≤ 64; omega)]
      exact hK'
    · rw [h2, Bool.false_and] at hK'; exact hK'
  · rw [h, Bool.false_and, Bool.false_and] at hK'; exact hK'
theorem summed_s {d : DM} {K : Bool → World → Prop} {w : World} (hl : d.salt.1.len = d.salt.2.length ∧ d.dig.1.len = d.dig.2.length) (hK : ∀ w', Ext w w' → K d.pure.summed w') :
    callS Try.prog 28 #[.agg d.cells.toArray] [.one .bool] K w := by
  refine f28_ok ?_
  unfold f28
  refine box_i fun g w1 e1 hg v1 => ?_
  have v1 : Var w1 g d.cells := v1
  have hd := Ext.drew w1
  have E := e1.trans hd
  have hK' := hK _ E
  unfold S.Des.summed at hK'
  have ha : d.pure.alg = d.alg := rfl
  rw [ha] at hK'
  have e2 : ((d.dig.1.len : Int) == S.dsz d.alg) = decide ((d.pure.dig.length : Int) = S.dsz d.alg) := by
    rw [hl.2, Bool.eq_iff_iff, beq_iff_eq, decide_eq_true_eq]; rfl
  have e3 : decide ((d.salt.1.len : Int) ≤ 64) = decide (d.pure.salt.length ≤ 64) := decide_eq_decide.2 (by rw [hl.1]; show (d.salt.2.length : Int) ≤ 64 ↔ d.salt.2.length ≤ 64; omega)
  refine ⟨fun y => Ext w1 y, hd, ?_⟩
  refine ld1Q_i (l := .int .i64) (o := 1) d.alg (fun y hy => v1.ext hy) rfl ?_
  have tail : (d.alg == 1 || d.alg == 2) = true → semQ Try.prog (fun y => Ext w1 y) (Instr.loadAt 25 (.pointer (some (at_ g 8)))) (.one .slc) (fun x3 =>
      semQ Try.prog (fun y => Ext w1 y) (Instr.loadAt 3 (.pointer (some (at_ g 1)))) (.one (.int .i64)) (fun x4 =>
      callS Try.prog 27 #[(.int .i64 x4)] [(.one (.int .i64))] (fun r5 w =>
      moreS (fun y => Ext w1 y) w (fun C =>
      cond ((x3.len : Int) == r5)
        (semQ Try.prog C (Instr.loadAt 25 (.pointer (some (at_ g 7)))) (.one .slc) (fun x6 =>
        K (decide ((x6.len : Int) ≤ 64)) w))
        (K false w))) w1.drew)) := fun h => by
    rw [h, Bool.true_and] at hK'
    refine ld1Q_i (l := .slc) (o := 8) d.dig.1 (fun y hy => v1.ext hy) rfl ?_
    refine ld1Q_i (l := .int .i64) (o := 1) d.alg (fun y hy => v1.ext hy) rfl ?_
    refine rdsz_s ?_
    refine more_i hd ?_
    rw [e2]
    refine cond_i (fun h2 => ?_) (fun h2 => ?_)
    · rw [h2, Bool.true_and] at hK'
      refine ld1Q_i (l := .slc) (o := 7) d.salt.1 (fun y hy => v1.ext hy) rfl ?_
      rw [e3]; exact hK'
    · rw [h2, Bool.false_and] at hK'; exact hK'
  refine cond_i (fun h => tail (by rw [h, Bool.true_or])) (fun h => ?_)
  refine ld1Q_i (l := .int .i64) (o := 1) d.alg (fun y hy => v1.ext hy) rfl ?_
  refine cond_i (fun h2 => tail (by rw [h2, Bool.or_true])) (fun h2 => ?_)
  rw [h, h2] at hK'; exact hK'
theorem ixStr12_i {P : Program} {w : World} {t : TypeId} [h : StrTy P t] {s : ByteArray} {i : Nat} {K : Int → World → Prop} (hi : i < s.toList.length) (hK : K ((s.toList[i].toNat : Nat) : Int) w) : semS P (Instr.index t (.string s) (.int .i64 (i : Int))) (.one (.int .u8)) K w := by
  have hsz : s.toList.length = s.size := by rw [← str_size, str_of]
  refine ⟨.int .u8 (s.toList[i].toNat : Nat), w, ?_, one_dec (l := .int .u8) hK⟩
  rw [run_index_string w t s .i64 (i : Int) h.und, dif_pos ⟨by omega, by omega⟩]
  congr 3
  have e : s.toList = s.data.toList := ByteArray.toList_eq s
  simp only [Int.toNat_natCast]
  have : s[i]'(by omega) = s.toList[i] := by
    simp only [e]; rfl
  rw [this]
theorem okc12 (b : UInt8) : (((!((decide ((b.toNat : Int) ≥ 97)) && (decide ((b.toNat : Int) ≤ 122)))) && (!((decide ((b.toNat : Int) ≥ 48)) && (decide ((b.toNat : Int) ≤ 57))))) && ((b.toNat : Int) != 95)) = !S.okc b := by
  rw [← badc_lo]
  unfold badc
  cases decide ((b.toNat : Int) ≥ 97) <;> cases decide ((b.toNat : Int) ≤ 122) <;> cases decide ((b.toNat : Int) ≥ 48) <;> cases decide ((b.toNat : Int) ≤ 57) <;> cases h : ((b.toNat : Int) == 95) <;> simp [bne, h]
theorem rnamed12_s {l : List UInt8} {K : Bool → World → Prop} {w : World} (hl : l.length ≤ 9223372036854775807) (hK : K (S.named l) w) : callS Try.prog 26 #[.string (str l)] [.one .bool] K w := by
  refine f26_ok ?_
  unfold f26
  have hsz : (str l).size = l.length := by rw [str_size]
  have htl := str_toList l
  refine cond_i (fun h => ?_) (fun h => ?_)
  · have : S.named l = false := by
      rw [Bool.or_eq_true, decide_eq_true_eq, decide_eq_true_eq] at h
      unfold S.named
      rcases h with h | h
      · have h2 : ((str l).size : Int) < 1 := h
        rw [decide_eq_false (show ¬ 1 ≤ l.length by omega)]; rfl
      · have h2 : ((str l).size : Int) > 24 := h
        rw [decide_eq_false (show ¬ l.length ≤ 24 by omega), Bool.and_false]; rfl
    rw [this] at hK; exact hK
  rw [Bool.or_eq_false_iff, decide_eq_false_iff_not, decide_eq_false_iff_not] at h
  have h1 : ¬ ((str l).size : Int) < 1 := h.1
  have h2 : ¬ ((str l).size : Int) > 24 := h.2
  have hn : S.named l = l.all S.okc := by
    unfold S.named
    rw [decide_eq_true (show 1 ≤ l.length by omega), decide_eq_true (show l.length ≤ 24 by omega)]; rfl
  refine loop_i (fun (x : Int) w' => w' = w ∧ ∃ i : Nat, i ≤ l.length ∧ x = i ∧ (l.take i).all S.okc = true) (fun x _ => l.length - x.toNat) ⟨rfl, 0, by omega, rfl, rfl⟩ ?_
  rintro x w' again ⟨rfl, i, hi, rfl, hall⟩ hag
  refine cond_i (fun hlt => ?_) (fun hge => ?_)
  · have hi' : i < l.length := by have : (i : Int) < ((str l).size : Int) := of_decide_eq_true hlt
                                  omega
    refine ixStr12_i (by rw [htl]; exact hi') ?_
    have hb : (str l).toList[i]'(by rw [htl]; exact hi') = l[i] := by simp only [htl]
    rw [hb, okc12]
    have ht : l.take (i + 1) = l.take i ++ [l[i]] := List.take_succ_eq_append_getElem hi'
    cases hc : S.okc l[i] with
    | false =>
      refine cond_i (fun _ => ?_) (fun h => by cases h)
      have : l.all S.okc = false := by
        rw [Bool.eq_false_iff]
        intro h
        have := List.all_eq_true.1 h _ (List.getElem_mem hi')
        rw [hc] at this; cases this
      rw [hn, this] at hK; exact hK
    | true =>
      refine cond_i (fun h => by cases h) (fun _ => ?_)
      refine hag _ w' ⟨rfl, i + 1, by omega, ?_, ?_⟩ ?_
      · simp only [wrap_i64 (x := (i : Int) + 1) (by omega) (by omega)]; omega
      · rw [ht, List.all_append, hall]; simp [hc]
      · simp only [wrap_i64 (x := (i : Int) + 1) (by omega) (by omega)]; omega
  · have hi' : i = l.length := by have : ¬ (i : Int) < ((str l).size : Int) := of_decide_eq_false hge
                                  omega
    subst hi'
    rw [List.take_length] at hall
    rw [hn, hall] at hK; exact hK
end Go.Proofs.Ytgjbajjggmpmmaa
