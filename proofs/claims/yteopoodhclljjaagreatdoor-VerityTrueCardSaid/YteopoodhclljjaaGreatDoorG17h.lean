/- Layer 12 (descr): descriptors as plain data: when they are right, their bytes, and what any bytes are. / Layer 12 (descr): a descriptor in memory; is it right? (the program's way and the document's) / Layer 12 (descr): Right, the program's and the document's. -/
import Derived.Test.YteopoodhclljjaaGreatDoorG17g
import Derived.Test.YteopoodhclljjaaGreatDoorG17b
import Derived.Test.YteopoodhclljjaaGreatDoorG17a
import Derived.Test.YteopoodhclljjaaGreatDoorG17e
import Derived.Test.YteopoodhclljjaaGreatDoorLib7
set_option linter.unusedSimpArgs false
set_option linter.unusedVariables false
/-! Pure12 -/
namespace Go.S
open Go Go.Eng
structure Des where
  kind : Int
  alg : Int
  size : Int
  blk : Int
  off : Int
  loc : Int
  name : List UInt8
  salt : List UInt8
  dig : List UInt8
  key : List UInt8
  val : List UInt8
deriving DecidableEq
namespace Des
def sums (d : Des) : Bool := d.alg == 0 && d.size == 0 && d.salt.length == 0 && d.dig.length == 0
def shape (d : Des) : Bool := d.blk == 0 && d.off == 0
def chain (d : Des) : Bool := d.loc == 0 && d.key.length == 0
def summed (d : Des) : Bool := (d.alg == 1 || d.alg == 2) && decide ((d.dig.length : Int) = dsz d.alg) && decide (d.salt.length ≤ 64)
def shp (d : Des) : Shp := ⟨d.size, d.blk, dsz d.alg⟩
def right (d : Des) : Bool :=
  if d.kind = 0 then d.sums && d.shape && d.chain && named d.name && decide (d.val.length ≤ 256)
  else if d.kind = 1 then d.chain && d.val.length == 0 && named d.name && d.summed && d.shp.right && decide (d.off ≥ d.size) && decide (d.off ≤ 1099511627776)
  else if d.kind = 2 then d.shape && d.chain && d.val.length == 0 && named d.name && d.summed && decide (d.size ≥ 0) && decide (d.size ≤ 1099511627776)
  else if d.kind = 3 then d.sums && d.shape && d.chain && d.name.length == 0 && decide (d.val.length ≤ 256)
  else if d.kind = 4 then d.sums && d.shape && d.val.length == 0 && named d.name && decide (d.loc ≥ 1) && decide (d.loc ≤ 31) && decide (d.key.length ≥ 1) && decide (d.key.length ≤ 1032)
  else false
def txs (d : Des) : List (List UInt8) := [d.name, d.salt, d.dig, d.key, d.val]
def hd (d : Des) : List UInt8 := be 4 d.alg.toNat ++ be 8 d.size.toNat ++ be 4 d.blk.toNat ++ be 8 d.off.toNat ++ be 4 d.loc.toNat
def lens (d : Des) : List UInt8 := d.txs.flatMap fun t => be 4 t.length
def raw (d : Des) : List UInt8 := d.hd ++ d.lens ++ d.txs.flatten
def pad8 (b : List UInt8) : List UInt8 := b ++ List.replicate ((8 - b.length % 8) % 8) 0
def body (d : Des) : List UInt8 := pad8 d.raw
def enc (d : Des) : List UInt8 := be 8 d.kind.toNat ++ be 8 d.body.length ++ d.body
structure Fits (d : Des) : Prop where
  kind : 0 ≤ d.kind ∧ d.kind ≤ 4
  alg : 0 ≤ d.alg ∧ d.alg ≤ 2
  size : 0 ≤ d.size ∧ d.size ≤ 1099511627776
  blk : 0 ≤ d.blk ∧ d.blk ≤ 4096
  off : 0 ≤ d.off ∧ d.off ≤ 1099511627776
  loc : 0 ≤ d.loc ∧ d.loc ≤ 31
  name : d.name.length ≤ 24
  salt : d.salt.length ≤ 64
  dig : d.dig.length ≤ 64
  key : d.key.length ≤ 1032
  val : d.val.length ≤ 256
end Des
/-! ### bytes, read -/
def num (b : List UInt8) (o n : Nat) : Nat := beN ((b.drop o).take n)
def tn (b : List UInt8) (i : Nat) : Nat := num b (28 + 4 * i) 4
def tf (b : List UInt8) : Nat → Nat
  | 0 => 48
  | i + 1 => tf b i + tn b i
def tt (b : List UInt8) (i : Nat) : List UInt8 := (b.drop (tf b i)).take (tn b i)
def desAt (kind : Int) (b : List UInt8) : Des := ⟨kind, num b 0 4, num b 4 8, num b 12 4, num b 16 8, num b 24 4, tt b 0, tt b 1, tt b 2, tt b 3, tt b 4⟩
def rd (kind : Int) (b : List UInt8) : Bool := decide (48 ≤ b.length) && decide (tf b 5 ≤ b.length) && ((desAt kind b).right && (desAt kind b).body == b)
namespace Des
theorem four {n : Nat} (h : n ≤ 5000) : n < 256 ^ 4 := Nat.lt_of_le_of_lt h (by decide)
end Des
/-! ### lists of descriptors -/
namespace Des
end Des
end Go.S

/-! Des12a -/
namespace Go.Proofs.YteopoodhclljjaaGreatDoor
open Go Go.Eng
/-- A descriptor as a Go value: its texts' slices beside their bytes. -/
structure DM where
  kind : Int
  alg : Int
  size : Int
  blk : Int
  off : Int
  loc : Int
  name : List UInt8
  salt : Sl × List UInt8
  dig : Sl × List UInt8
  key : Sl × List UInt8
  val : Sl × List UInt8
def DM.pure (d : DM) : S.Des := ⟨d.kind, d.alg, d.size, d.blk, d.off, d.loc, d.name, d.salt.2, d.dig.2, d.key.2, d.val.2⟩
def DM.cells (d : DM) : List Value := [.int .i64 d.kind, .int .i64 d.alg, .int .i64 d.size, .int .i64 d.blk, .int .i64 d.off, .int .i64 d.loc, .string (str d.name), slV d.salt.1, slV d.dig.1, slV d.key.1, slV d.val.1]
structure DM.Ok (w : World) (d : DM) : Prop where
  kind : S.I64 d.kind
  alg : S.I64 d.alg
  size : S.I64 d.size
  blk : S.I64 d.blk
  off : S.I64 d.off
  loc : S.I64 d.loc
  name : d.name.length ≤ 9223372036854775807
  salt : Bts w d.salt.1 d.salt.2
  dig : Bts w d.dig.1 d.dig.2
  key : Bts w d.key.1 d.key.2
  val : Bts w d.val.1 d.val.2
theorem DM.Ok.fr {S : Nat → Prop} {w w' : World} {d : DM} (h : d.Ok w) (f : Fr S w w') (hs : ∀ k, (d.salt.1.inB k ∨ d.dig.1.inB k ∨ d.key.1.inB k ∨ d.val.1.inB k) → ¬ S k) : d.Ok w' :=
  ⟨h.kind, h.alg, h.size, h.blk, h.off, h.loc, h.name, h.salt.fr f fun a ha => hs _ (.inl ⟨a, ha, rfl⟩), h.dig.fr f fun a ha => hs _ (.inr (.inl ⟨a, ha, rfl⟩)), h.key.fr f fun a ha => hs _ (.inr (.inr (.inl ⟨a, ha, rfl⟩))), h.val.fr f fun a ha => hs _ (.inr (.inr (.inr ⟨a, ha, rfl⟩)))⟩
theorem DM.Ok.ext {w w' : World} {d : DM} (h : d.Ok w) (e : Ext w w') : d.Ok w' := h.fr e fun _ _ h => h
/-- Short texts. -/
structure DM.Sm (d : DM) : Prop where
  name : d.name.length ≤ 100000
  salt : d.salt.2.length ≤ 100000
  dig : d.dig.2.length ≤ 100000
  key : d.key.2.length ≤ 100000
  val : d.val.2.length ≤ 100000
abbrev lD : List Lf := [.int .i64, .int .i64, .int .i64, .int .i64, .int .i64, .int .i64, .str, .slc, .slc, .slc, .slc]
theorem DM.one (d : DM) : ∀ v ∈ d.cells, v.oneCell' = true := fun v hv => by
  simp only [DM.cells, List.mem_cons, List.not_mem_nil, or_false] at hv
  rcases hv with rfl | rfl | rfl | rfl | rfl | rfl | rfl | rfl | rfl | rfl | rfl <;> rfl
section
variable {P : Program} {w : World} {t g : Nat}
theorem ldD_i [AggTy P t 11] {d : DM} {K : Int → Int → Int → Int → Int → Int → ByteArray → Sl → Sl → Sl → Sl → World → Prop} (hv : Var w g d.cells) (hK : K d.kind d.alg d.size d.blk d.off d.loc (str d.name) d.salt.1 d.dig.1 d.key.1 d.val.1 w) :
    semS P (Instr.loadAt t (.pointer (some (at_ g 0)))) (.agg lD) K w :=
  ldV_i (n := 11) (ls := lD) 0 hv (Nat.le_refl 11) hK
theorem ldDQ_i [AggTy P t 11] {d : DM} {C : World → Prop} {K : Int → Int → Int → Int → Int → Int → ByteArray → Sl → Sl → Sl → Sl → Prop} (hv : ∀ w, C w → Var w g d.cells) (hK : K d.kind d.alg d.size d.blk d.off d.loc (str d.name) d.salt.1 d.dig.1 d.key.1 d.val.1) :
    semQ P C (Instr.loadAt t (.pointer (some (at_ g 0)))) (.agg lD) K :=
  ldVQ_i (n := 11) (ls := lD) 0 hv (Nat.le_refl 11) hK
theorem stD_i [AggTy P t 11] {d : DM} {cs : List Value} {K : World → Prop} (hv : Var w g cs) (hl : cs.length = 11) (hK : ∀ w', Fr (fun k => k = g) w w' → Var w' g d.cells → K w') :
    semU P (Instr.storeAt t (.pointer (some (at_ g 0))) (.agg d.cells.toArray)) K w :=
  stV_i (n := 11) (vs := d.cells) 0 hv rfl (by omega) d.one fun w' h1 h2 => hK w' h1 (by simpa [List.drop_of_length_le (Nat.le_of_eq hl)] using h2)
theorem resD_i [AggTy P t 11] {d : DM} {K : Int → Int → Int → Int → Int → Int → ByteArray → Sl → Sl → Sl → Sl → World → Prop} (hv : Var w g d.cells) (hK : K d.kind d.alg d.size d.blk d.off d.loc (str d.name) d.salt.1 d.dig.1 d.key.1 d.val.1 w) :
    ∃ v, (loadVar t (at_ g 0)).run P w = .ok v w ∧ decR [.agg lD] v K fun r => r w :=
  resV_i (n := 11) hv rfl hK
end
/-- A descriptor without what its kind names. -/
def DM.bare (d : DM) : DM :=
  if d.kind = 0 then { d with name := [], val := (Sl.nil, []) }
  else if d.kind = 1 then { d with blk := 0, off := 0, alg := 0, size := 0, name := [], salt := (Sl.nil, []), dig := (Sl.nil, []) }
  else if d.kind = 2 then { d with alg := 0, size := 0, name := [], salt := (Sl.nil, []), dig := (Sl.nil, []) }
  else if d.kind = 3 then { d with val := (Sl.nil, []) }
  else if d.kind = 4 then { d with loc := 0, name := [], key := (Sl.nil, []) }
  else d
def DM.nothing (d : DM) : Bool := d.alg == 0 && d.size == 0 && d.blk == 0 && d.off == 0 && d.loc == 0 && d.name == [] && decide (d.salt.2.length + d.dig.2.length + d.key.2.length + d.val.2.length = 0)
theorem nil_toList : (ByteArray.mk #[]).toList = [] := str_toList []
theorem bare_s {d : DM} {K : Int → Int → Int → Int → Int → Int → ByteArray → Sl → Sl → Sl → Sl → World → Prop} {w : World} (hK : ∀ w', Ext w w' → K d.bare.kind d.bare.alg d.bare.size d.bare.blk d.bare.off d.bare.loc (str d.bare.name) d.bare.salt.1 d.bare.dig.1 d.bare.key.1 d.bare.val.1 w') :
    callS Tryz.prog 61 #[.agg d.cells.toArray] [.agg lD] K w := by
  refine f61_ok ?_
  unfold f61
  refine box_i fun g w1 e1 hg v1 => ?_
  have v1 : Var w1 g d.cells := v1
  refine alloc_i fun g2 w2 e2 hg2 v2 => ?_
  have v1 := v1.ext e2
  have hgl : g < w1.heap.size := by have := ‹Var w1 g (Value.cells _).toList›.lt; exact this
  have hne : g ≠ g2 := by omega
  have E2 := e1.trans e2
  have s1 := e1.size
  have fin : ∀ (d' : DM) (w3 : World), Fr (fun k => k = g) w2 w3 → Var w3 g d'.cells → d' = d.bare → semS Tryz.prog (Instr.loadAt 29 (.pointer (some (at_ g 0)))) (.agg lD) (fun x5 x6 x7 x8 x9 x10 x11 x12 x13 x14 x15 w =>
      semU Tryz.prog (Instr.storeAt 29 (.pointer (some (at_ g2 0))) (.agg #[(.int .i64 x5), (.int .i64 x6), (.int .i64 x7), (.int .i64 x8), (.int .i64 x9), (.int .i64 x10), (.string x11), (.slice x12.a x12.len x12.cap), (.slice x13.a x13.len x13.cap), (.slice x14.a x14.len x14.cap), (.slice x15.a x15.len x15.cap)])) (fun w =>
      ∃ v16, (loadVar 29 (at_ g2 0)).run Tryz.prog w = .ok v16 w ∧ decR [(.agg [(.int .i64), (.int .i64), (.int .i64), (.int .i64), (.int .i64), (.int .i64), .str, .slc, .slc, .slc, .slc])] v16 K fun r => r w) w) w3 := fun d' w3 f3 v3 hd => by
    refine ldD_i v3 ?_
    refine stD_i (d := d') (v2.fr f3 fun e => hne e.symm) rfl fun w4 f4 v4 => ?_
    refine resD_i v4 ?_
    subst hd
    exact hK w4 (Fr.own1 (Fr.own1 E2 f3 hg) f4 (by omega))
  refine ld1_i (l := .int .i64) (o := 0) d.kind v1 rfl ?_
  refine join_i (fun _ w' => ∃ b o, Fr (fun k => k = g) w2 w' ∧ Var w' g (DM.cells { d with blk := b, off := o }) ∧ { d with blk := b, off := o, alg := 0, size := 0, name := [], salt := (Sl.nil, []), dig := (Sl.nil, []) } = d.bare) ?_ fun J hJ => ?_
  · rintro _ w3 ⟨b, o, f3, v3, hb⟩
    refine st1_i (o := 1) v3 (show 1 < 11 by decide) rfl fun w4 f4 v4 => ?_
    refine st1_i (o := 2) v4 (show 2 < 11 by decide) rfl fun w5 f5 v5 => ?_
    refine st1_i (o := 6) v5 (show 6 < 11 by decide) rfl fun w6 f6 v6 => ?_
    refine st1_i (o := 7) v6 (show 7 < 11 by decide) rfl fun w7 f7 v7 => ?_
    refine st1_i (o := 8) v7 (show 8 < 11 by decide) rfl fun w8 f8 v8 => ?_
    exact fin _ w8 (((((f3.trans' f4).trans' f5).trans' f6).trans' f7).trans' f8) (show Var w8 g (DM.cells { d with blk := b, off := o, alg := 0, size := 0, name := [], salt := (Sl.nil, []), dig := (Sl.nil, []) }) from v8) hb
  refine cond_i (fun h0 => ?_) (fun h0 => ?_)
  · have hk : d.kind = 0 := by simpa using h0
    refine st1_i (o := 6) v1 (show 6 < 11 by decide) rfl fun w3 f3 v3 => ?_
    refine st1_i (o := 10) v3 (show 10 < 11 by decide) rfl fun w4 f4 v4 => ?_
    exact fin _ w4 (f3.trans' f4) (show Var w4 g (DM.cells { d with name := [], val := (Sl.nil, []) }) from v4) (by unfold DM.bare; rw [if_pos hk])
  have k0 : ¬ d.kind = 0 := by simpa using h0
  refine cond_i (fun h1 => ?_) (fun h1 => ?_)
  · have hk : d.kind = 1 := by simpa using h1
    refine st1_i (o := 3) v1 (show 3 < 11 by decide) rfl fun w3 f3 v3 => ?_
    refine st1_i (o := 4) v3 (show 4 < 11 by decide) rfl fun w4 f4 v4 => ?_
    exact hJ _ _ ⟨0, 0, f3.trans' f4, v4, by unfold DM.bare; rw [if_neg k0, if_pos hk]⟩
  have k1 : ¬ d.kind = 1 := by simpa using h1
  refine cond_i (fun h2 => ?_) (fun h2 => ?_)
  · have hk : d.kind = 2 := by simpa using h2
    exact hJ _ _ ⟨d.blk, d.off, Fr.refl _ _, v1, by unfold DM.bare; rw [if_neg k0, if_neg k1, if_pos hk]⟩
  have k2 : ¬ d.kind = 2 := by simpa using h2
  refine cond_i (fun h3 => ?_) (fun h3 => ?_)
  · have hk : d.kind = 3 := by simpa using h3
    refine st1_i (o := 10) v1 (show 10 < 11 by decide) rfl fun w4 f4 v4 => ?_
    exact fin _ w4 f4 (show Var w4 g (DM.cells { d with val := (Sl.nil, []) }) from v4) (by unfold DM.bare; rw [if_neg k0, if_neg k1, if_neg k2, if_pos hk])
  have k3 : ¬ d.kind = 3 := by simpa using h3
  refine cond_i (fun h4 => ?_) (fun h4 => ?_)
  · have hk : d.kind = 4 := by simpa using h4
    refine st1_i (o := 5) v1 (show 5 < 11 by decide) rfl fun w3 f3 v3 => ?_
    refine st1_i (o := 6) v3 (show 6 < 11 by decide) rfl fun w4 f4 v4 => ?_
    refine st1_i (o := 9) v4 (show 9 < 11 by decide) rfl fun w5 f5 v5 => ?_
    exact fin _ w5 ((f3.trans' f4).trans' f5) (show Var w5 g (DM.cells { d with loc := 0, name := [], key := (Sl.nil, []) }) from v5) (by unfold DM.bare; rw [if_neg k0, if_neg k1, if_neg k2, if_neg k3, if_pos hk])
  have k4 : ¬ d.kind = 4 := by simpa using h4
  exact fin d w2 (Fr.refl _ _) v1 (by unfold DM.bare; rw [if_neg k0, if_neg k1, if_neg k2, if_neg k3, if_neg k4])
/-- The loads of a descriptor's parts. -/
theorem ldI {w : World} {g : Nat} {d : DM} (v : Var w g d.cells) (o : Nat) {x : Int} {K : Int → World → Prop} (hx : d.cells[o]? = some (.int .i64 x)) (h : K x w) : semS Tryz.prog (Instr.loadAt 3 (.pointer (some (at_ g o)))) (.one (.int .i64)) K w := ld1_i (l := .int .i64) (o := o) x v hx h
theorem ldS {w : World} {g : Nat} {d : DM} (v : Var w g d.cells) (o : Nat) {x : Sl} {K : Sl → World → Prop} (hx : d.cells[o]? = some (slV x)) (h : K x w) : semS Tryz.prog (Instr.loadAt 22 (.pointer (some (at_ g o)))) (.one .slc) K w := ld1_i (l := .slc) (o := o) x v hx h
theorem ldN {w : World} {g : Nat} {d : DM} (v : Var w g d.cells) {K : ByteArray → World → Prop} (h : K (str d.name) w) : semS Tryz.prog (Instr.loadAt 9 (.pointer (some (at_ g 6)))) (.one .str) K w := ld1_i (l := .str) (o := 6) (str d.name) v rfl h
theorem nothing_s {d : DM} {K : Bool → World → Prop} {w : World} (hl : d.salt.1.len = d.salt.2.length ∧ d.dig.1.len = d.dig.2.length ∧ d.key.1.len = d.key.2.length ∧ d.val.1.len = d.val.2.length) (hs : d.Sm) (hK : ∀ w', Ext w w' → K d.nothing w') :
    callS Tryz.prog 62 #[.agg d.cells.toArray] [.one .bool] K w := by
  refine f62_ok ?_
  unfold f62
  refine box_i fun g w1 e1 hg v1 => ?_
  have v1 : Var w1 g d.cells := v1
  refine ldI v1 1 rfl ?_
  refine joinAnd (x := d.size == 0) (fun w2 e2 => ?_) fun J hJ _ => ldI v1 2 rfl (hJ _ (Fr.refl _ _))
  refine joinAnd (x := d.blk == 0) (fun w3 e3 => ?_) fun J hJ _ => ldI (v1.ext e2) 3 rfl (hJ _ (Fr.refl _ _))
  have e23 := e2.trans e3
  refine joinAnd (x := d.off == 0) (fun w4 e4 => ?_) fun J hJ _ => ldI (v1.ext e23) 4 rfl (hJ _ (Fr.refl _ _))
  have e24 := e23.trans e4
  refine joinAnd (x := d.loc == 0) (fun w5 e5 => ?_) fun J hJ _ => ldI (v1.ext e24) 5 rfl (hJ _ (Fr.refl _ _))
  have e25 := e24.trans e5
  refine joinAnd (x := d.name == []) (fun w6 e6 => ?_) fun J hJ _ => ldN (v1.ext e25) (by rw [str_toList, nil_toList]; exact hJ _ (Fr.refl _ _))
  have e26 := e25.trans e6
  refine joinAnd (x := decide (d.salt.2.length + d.dig.2.length + d.key.2.length + d.val.2.length = 0)) (fun w7 e7 => hK w7 (e1.trans (e26.trans e7))) fun J hJ _ => ?_
  refine ldS (v1.ext e26) 7 rfl (ldS (v1.ext e26) 8 rfl (ldS (v1.ext e26) 9 rfl (ldS (v1.ext e26) 10 rfl ?_)))
  obtain ⟨h1, h2, h3, h4⟩ := hl
  have q1 := hs.salt
  have q2 := hs.dig
  have q3 := hs.key
  have q4 := hs.val
  have := hJ _ (Fr.refl (fun _ => False) w6)
  have e : (IntKind.wrap .i64 ((IntKind.wrap .i64 ((IntKind.wrap .i64 ((d.salt.1.len : Int) + (d.dig.1.len : Int))) + (d.key.1.len : Int))) + (d.val.1.len : Int)) == 0) = decide (d.salt.2.length + d.dig.2.length + d.key.2.length + d.val.2.length = 0) := by
    rw [wrap_i64 (x := (d.salt.1.len : Int) + (d.dig.1.len : Int)) (by omega) (by omega), wrap_i64 (x := (d.salt.1.len : Int) + (d.dig.1.len : Int) + (d.key.1.len : Int)) (by omega) (by omega), wrap_i64 (by omega) (by omega), Bool.eq_iff_iff, beq_iff_eq, decide_eq_true_eq]
    omega
  rw [← e] at this
  exact this
theorem digest_s {d : DM} {K : Bool → World → Prop} {w : World} (hl : d.salt.1.len = d.salt.2.length ∧ d.dig.1.len = d.dig.2.length) (hK : ∀ w', Ext w w' → K d.pure.summed w') :
    callS Tryz.prog 64 #[.agg d.cells.toArray] [.one .bool] K w := by
  refine f64_ok ?_
  unfold f64
  refine box_i fun g w1 e1 hg v1 => ?_
  have v1 : Var w1 g d.cells := v1
  have hd := Ext.drew w1
  have E := e1.trans hd
  have hz : (S.dsz d.alg != 0) = (d.alg == 1 || d.alg == 2) := by unfold S.dsz; by_cases h1 : d.alg = 1 <;> by_cases h2 : d.alg = 2 <;> simp [h1, h2]
  have hK' := hK _ E
  unfold S.Des.summed at hK'
  refine ⟨fun y => Ext w1 y, hd, ?_⟩
  refine ld1Q_i (l := .int .i64) (o := 1) d.alg (fun y hy => v1.ext hy) rfl ?_
  refine dsz_s ?_
  refine more_i hd ?_
  rw [hz]
  have ha : d.pure.alg = d.alg := rfl
  rw [ha] at hK'
  refine cond_i (fun h => ?_) (fun h => ?_)
  · rw [h, Bool.true_and] at hK'
    refine ld1Q_i (l := .slc) (o := 8) d.dig.1 (fun y hy => v1.ext hy) rfl ?_
    refine ld1Q_i (l := .int .i64) (o := 1) d.alg (fun y hy => v1.ext hy) rfl ?_
    refine dsz_s ?_
    refine more_i hd ?_
    have e2 : ((d.dig.1.len : Int) == S.dsz d.alg) = decide ((d.pure.dig.length : Int) = S.dsz d.alg) := by
      rw [hl.2, Bool.eq_iff_iff, beq_iff_eq, decide_eq_true_eq]; rfl
    rw [e2]
    refine cond_i (fun h2 => ?_) (fun h2 => ?_)
    · rw [h2, Bool.true_and] at hK'
      refine ld1Q_i (l := .slc) (o := 7) d.salt.1 (fun y hy => v1.ext hy) rfl ?_
      rw [show decide ((d.salt.1.len : Int) ≤ 64) = decide (d.pure.salt.length ≤ 64) from decide_eq_decide.2 (by rw [hl.1]; show (d.salt.2.length : Int) ≤ 64 ↔ d.salt.2.length ≤ 64; omega)]
      exact hK'
    · rw [h2, Bool.false_and] at hK'; exact hK'
  · rw [h, Bool.false_and, Bool.false_and] at hK'; exact hK'
end Go.Proofs.YteopoodhclljjaaGreatDoor

/-! Des12b -/
namespace Go.Proofs.YteopoodhclljjaaGreatDoor
open Go Go.Eng
structure DM.Ln (d : DM) : Prop where
  salt : d.salt.1.len = d.salt.2.length
  dig : d.dig.1.len = d.dig.2.length
  key : d.key.1.len = d.key.2.length
  val : d.val.1.len = d.val.2.length
theorem DM.Ok.ln {w : World} {d : DM} (h : d.Ok w) : d.Ln := ⟨Bts.len h.salt, Bts.len h.dig, Bts.len h.key, Bts.len h.val⟩
theorem DM.bare_ln {d : DM} (h : d.Ln) : d.bare.Ln := by
  unfold DM.bare
  split
  · exact ⟨h.salt, h.dig, h.key, rfl⟩
  split
  · exact ⟨rfl, rfl, h.key, h.val⟩
  split
  · exact ⟨rfl, rfl, h.key, h.val⟩
  split
  · exact ⟨h.salt, h.dig, h.key, rfl⟩
  split
  · exact ⟨h.salt, h.dig, rfl, h.val⟩
  · exact h
theorem DM.bare_sm {d : DM} (h : d.Sm) : d.bare.Sm := by
  have z : ([] : List UInt8).length ≤ 100000 := by simp
  unfold DM.bare
  split
  · exact ⟨z, h.salt, h.dig, h.key, z⟩
  split
  · exact ⟨z, z, z, h.key, h.val⟩
  split
  · exact ⟨z, z, z, h.key, h.val⟩
  split
  · exact ⟨h.name, h.salt, h.dig, h.key, z⟩
  split
  · exact ⟨z, h.salt, h.dig, z, h.val⟩
  · exact h
def DM.pre (d : DM) : Bool := ((((decide (d.kind < 0) || decide (d.kind > 4)) || !d.bare.nothing) || ((d.kind != 3) && !S.named d.name)) || decide (d.val.2.length > 256))
def DM.pR (d : DM) : Bool :=
  if d.pre = true then false
  else if d.kind = 1 then ((d.pure.summed && d.pure.shp.right) && decide (d.off ≥ d.size)) && decide (d.off ≤ 1099511627776)
  else if d.kind = 2 then (d.pure.summed && decide (d.size ≥ 0)) && decide (d.size ≤ 1099511627776)
  else if d.kind = 4 then ((decide (d.loc ≥ 1) && decide (d.loc < 32)) && decide (d.key.2.length ≥ 1)) && decide (d.key.2.length ≤ 1032)
  else true
theorem DM.pR_eq (d : DM) : d.pR = d.pure.right := by
  obtain ⟨kind, alg, size, blk, off, loc, name, ⟨s1, salt⟩, ⟨g1, dig⟩, ⟨k1, key⟩, ⟨v1, val⟩⟩ := d
  unfold DM.pR DM.pre S.Des.right
  simp only [DM.pure]
  by_cases k0 : kind = 0
  · subst k0
    simp [DM.bare, DM.nothing, S.Des.sums, S.Des.shape, S.Des.chain]
    grind
  by_cases k1 : kind = 1
  · subst k1
    simp [DM.bare, DM.nothing, S.Des.sums, S.Des.shape, S.Des.chain]
    grind
  by_cases k2 : kind = 2
  · subst k2
    simp [DM.bare, DM.nothing, S.Des.sums, S.Des.shape, S.Des.chain]
    grind
  by_cases k3 : kind = 3
  · subst k3
    simp [DM.bare, DM.nothing, S.Des.sums, S.Des.shape, S.Des.chain]
    grind
  by_cases k4 : kind = 4
  · subst k4
    simp [DM.bare, DM.nothing, S.Des.sums, S.Des.shape, S.Des.chain]
    grind
  have hpre : decide (kind < 0) || decide (kind > 4) := by simp; omega
  rw [hpre]
  simp [k0, k1, k2, k3, k4]
theorem right_t1 {d : DM} {K : Bool → World → Prop} {w : World} {g g2 : Nat} (hl : d.Ln) (v : Var w g d.cells) (v2 : Var w g2 (shC d.pure.shp)) (hK : ∀ w', Ext w w' → K (((d.pure.summed && d.pure.shp.right) && decide (d.off ≥ d.size)) && decide (d.off ≤ 1099511627776)) w') :
    f28_t1 (at_ g 0) K (at_ g2 0) w := by
  unfold f28_t1
  refine ldD_i v ?_
  refine digest_s ⟨hl.salt, hl.dig⟩ fun w1 e1 => ?_
  refine joinAnd (x := d.pure.shp.right) (fun w2 e2 => ?_) fun J hJ _ => ldSh_i (v2.ext e1) (sRight_s hJ)
  have e12 := e1.trans e2
  refine joinAnd (x := decide (d.off ≥ d.size)) (fun w3 e3 => ?_) fun J hJ _ => ldI (v.ext e12) 4 rfl (ldI (v.ext e12) 2 rfl (hJ _ (Fr.refl _ _)))
  have e13 := e12.trans e3
  exact joinAnd (x := decide (d.off ≤ 1099511627776)) (fun w4 e4 => hK w4 (e13.trans e4)) fun J hJ _ => ldI (v.ext e13) 4 rfl (hJ _ (Fr.refl _ _))
theorem dRight_s {d : DM} {K : Bool → World → Prop} {w : World} (hl : d.Ln) (hs : d.Sm) (hK : ∀ w', Ext w w' → K d.pure.right w') :
    callS Tryz.prog 28 #[.agg d.cells.toArray] [.one .bool] K w := by
  rw [← DM.pR_eq] at hK
  refine f28_ok ?_
  unfold f28
  refine box_i fun g w1 e1 hg v1 => ?_
  have v1 : Var w1 g d.cells := v1
  have hnm := hs.name
  refine ldI v1 0 rfl ?_
  refine joinOr (x := decide (d.kind > 4)) (fun w2 e2 => ?_) fun J hJ _ => ldI v1 0 rfl (hJ _ (Fr.refl _ _))
  refine joinOr (x := !d.bare.nothing) (fun w3 e3 => ?_) fun J hJ _ => ldD_i (v1.ext e2) (bare_s fun w' e => nothing_s (d := d.bare) ⟨(DM.bare_ln hl).salt, (DM.bare_ln hl).dig, (DM.bare_ln hl).key, (DM.bare_ln hl).val⟩ (DM.bare_sm hs) fun w'' e' => hJ _ (e.trans e'))
  have e13 := e2.trans e3
  refine joinOr (x := ((d.kind != 3) && !S.named d.name)) (fun w4 e4 => ?_) fun J hJ _ => ldI (v1.ext e13) 0 rfl (joinAnd (x := !S.named d.name) (fun w' e => hJ _ e) fun J2 hJ2 _ => ldN (v1.ext e13) (snamed_s (by rw [str_size]; omega) fun w' e => by rw [str_toList]; exact hJ2 _ e))
  have e14 := e13.trans e4
  refine joinOr (x := decide (d.val.2.length > 256)) (fun w5 e5 => ?_) fun J hJ _ => ldS (v1.ext e14) 10 rfl (by
    rw [show decide ((d.val.1.len : Int) > 256) = decide (d.val.2.length > 256) from decide_eq_decide.2 (by rw [hl.val]; omega)]
    exact hJ _ (Fr.refl _ _))
  have e15 := e14.trans e5
  have v5 := v1.ext e15
  have E5 := e1.trans e15
  refine cond_i (fun hp => ?_) (fun hp => ?_)
  · have := hK w5 E5
    unfold DM.pR at this
    rw [if_pos (show d.pre = true from hp)] at this
    exact this
  have hpr : ∀ {K' : Bool → World → Prop} {w' : World}, K' d.pR w' → K' (if d.kind = 1 then ((d.pure.summed && d.pure.shp.right) && decide (d.off ≥ d.size)) && decide (d.off ≤ 1099511627776)
      else if d.kind = 2 then (d.pure.summed && decide (d.size ≥ 0)) && decide (d.size ≤ 1099511627776)
      else if d.kind = 4 then ((decide (d.loc ≥ 1) && decide (d.loc < 32)) && decide (d.key.2.length ≥ 1)) && decide (d.key.2.length ≤ 1032)
      else true) w' := fun {K' w'} h => by
    unfold DM.pR at h
    rw [if_neg (by rw [show d.pre = false from hp]; simp)] at h
    exact h
  refine ldI v5 0 rfl ?_
  refine cond_i (fun h1 => ?_) (fun h1 => ?_)
  · have k1 : d.kind = 1 := by simpa using h1
    have hK' : ∀ w', Ext w5 w' → K (((d.pure.summed && d.pure.shp.right) && decide (d.off ≥ d.size)) && decide (d.off ≤ 1099511627776)) w' := fun w' e => by
      have := hpr (hK w' (E5.trans e))
      rw [if_pos k1] at this; exact this
    have hd := Ext.drew w5
    refine ⟨fun y => Ext w5 y, hd, ?_⟩
    refine ld1Q_i (l := .int .i64) (o := 2) d.size (fun y hy => v5.ext hy) rfl ?_
    refine ld1Q_i (l := .int .i64) (o := 3) d.blk (fun y hy => v5.ext hy) rfl ?_
    refine ld1Q_i (l := .int .i64) (o := 1) d.alg (fun y hy => v5.ext hy) rfl ?_
    refine ⟨?_, ?_⟩
    · refine dsz_s ?_
      refine more_i hd ?_
      refine alloc_i fun g2 w6 e6 hg2 v6 => ?_
      refine more_i (hd.trans e6) ?_
      refine stSh_i (x := d.pure.shp) v6 rfl fun w7 f7 v7 => ?_
      have E7 : Ext w5 w7 := Fr.own1 (hd.trans e6) f7 (by have := hd.size; omega)
      exact right_t1 hl (v5.ext E7) v7 fun w' e => hK' w' (E7.trans e)
    · refine alloc_i fun g2 w6 e6 hg2 v6 => ?_
      refine more_i (hd.trans e6) ?_
      refine dsz_s ?_
      refine more_i (hd.trans e6) ?_
      refine stSh_i (x := d.pure.shp) v6 rfl fun w7 f7 v7 => ?_
      have E7 : Ext w5 w7 := Fr.own1 (hd.trans e6) f7 (by have := hd.size; omega)
      exact right_t1 hl (v5.ext E7) v7 fun w' e => hK' w' (E7.trans e)
  have k1 : ¬ d.kind = 1 := by simpa using h1
  refine cond_i (fun h2 => ?_) (fun h2 => ?_)
  · have k2 : d.kind = 2 := by simpa using h2
    refine ldD_i v5 ?_
    refine digest_s ⟨hl.salt, hl.dig⟩ fun w6 e6 => ?_
    refine joinAnd (x := decide (d.size ≥ 0)) (fun w7 e7 => ?_) fun J hJ _ => ldI (v5.ext e6) 2 rfl (hJ _ (Fr.refl _ _))
    have e67 := e6.trans e7
    refine joinAnd (x := decide (d.size ≤ 1099511627776)) (fun w8 e8 => ?_) fun J hJ _ => ldI (v5.ext e67) 2 rfl (hJ _ (Fr.refl _ _))
    have := hpr (hK w8 (E5.trans (e67.trans e8)))
    rw [if_neg k1, if_pos k2] at this; exact this
  have k2 : ¬ d.kind = 2 := by simpa using h2
  refine cond_i (fun h4 => ?_) (fun h4 => ?_)
  · have k4 : d.kind = 4 := by simpa using h4
    refine ldI v5 5 rfl ?_
    refine joinAnd (x := decide (d.loc < 32)) (fun w7 e7 => ?_) fun J hJ _ => ldI v5 5 rfl (hJ _ (Fr.refl _ _))
    refine joinAnd (x := decide (d.key.2.length ≥ 1)) (fun w8 e8 => ?_) fun J hJ _ => ldS (v5.ext e7) 9 rfl (by
      rw [show decide ((d.key.1.len : Int) ≥ 1) = decide (d.key.2.length ≥ 1) from decide_eq_decide.2 (by rw [hl.key]; omega)]
      exact hJ _ (Fr.refl _ _))
    have e78 := e7.trans e8
    refine joinAnd (x := decide (d.key.2.length ≤ 1032)) (fun w9 e9 => ?_) fun J hJ _ => ldS (v5.ext e78) 9 rfl (by
      rw [show decide ((d.key.1.len : Int) ≤ 1032) = decide (d.key.2.length ≤ 1032) from decide_eq_decide.2 (by rw [hl.key]; omega)]
      exact hJ _ (Fr.refl _ _))
    have := hpr (hK w9 (E5.trans (e78.trans e9)))
    rw [if_neg k1, if_neg k2, if_pos k4] at this; exact this
  have k4 : ¬ d.kind = 4 := by simpa using h4
  have := hpr (hK w5 E5)
  rw [if_neg k1, if_neg k2, if_neg k4] at this; exact this
end Go.Proofs.YteopoodhclljjaaGreatDoor
