/- Layer 1 (span): what its functions come to, as contracts over the plain functions of Pure01. / Layers 2 and 3 (sums): a sum as a plain function over lists, whatever the word's kind. / slices.Chunk and its iterator, over whatever yield. / Layer 8 (place): a shape, its levels, and a number's ones, as plain data. -/
import Derived.Test.YteopoodhclljjaaGreatDoorG17a
import Derived.Test.YteopoodhclljjaaGreatDoorSh
import Derived.Test.YteopoodhclljjaaGreatDoorTy
import Derived.Test.YteopoodhclljjaaGreatDoorLib4
import Derived.Test.YteopoodhclljjaaGreatDoorLib5
import Derived.Test.YteopoodhclljjaaGreatDoorNum
import Derived.Test.YteopoodhclljjaaGreatDoorFlt
set_option linter.unusedSimpArgs false
set_option linter.unusedVariables false
/-! Span -/
namespace Go.Proofs.YteopoodhclljjaaGreatDoor
open Go Go.Eng

theorem within_s {a b c : Int} {K : Bool → World → Prop} {w : World} (ha : S.I64 a) (hb : S.I64 b) (hc : S.I64 c) (hK : K (S.within a b c) w) :
    callS Tryz.prog 67 #[.int .i64 a, .int .i64 b, .int .i64 c] [.one .bool] K w := by
  refine f67_ok ?_
  unfold f67
  have : (((((decide (a ≥ 0)) && (decide (b ≥ 0))) && (decide (c ≥ 0))) && (decide (a ≤ c))) && (decide (b ≤ (IntKind.wrap .i64 (c - a))))) = S.within a b c := by
    unfold S.within
    by_cases h : 0 ≤ a ∧ 0 ≤ c ∧ a ≤ c
    · rw [wrap_i64 (by omega) (by omega)]
    · rw [Bool.eq_iff_iff]
      simp only [Bool.and_eq_true, decide_eq_true_eq]
      constructor <;> intro h' <;> exact absurd ⟨by omega, by omega, by omega⟩ h
  rw [this]; exact hK

theorem align_s {n to : Int} {K : Int → Int → World → Prop} {w : World} (hn : S.I64 n) (ht : S.I64 to) (hK : K (S.align n to).1 (S.align n to).2 w) :
    callS Tryz.prog 81 #[.int .i64 n, .int .i64 to] [.one (.int .i64), .one (.int .i64)] K w := by
  refine f81_ok ?_
  unfold f81
  unfold S.align at hK
  refine cond_i (fun h => ?_) (fun h => ?_)
  · rw [if_pos (by simp only [Bool.or_eq_true, decide_eq_true_eq] at h; omega)] at hK; exact hK
  · have h' : ¬ (n < 0 ∨ to < 1 ∨ to > 65536) := by simp only [Bool.or_eq_false_iff, decide_eq_false_iff_not] at h; omega
    rw [if_neg h'] at hK
    refine cond_i (fun h2 => ?_) (fun h2 => ?_)
    · rw [if_pos (by simpa using h2)] at hK; exact hK
    · have h2' : ¬ n > 4611686018427387904 := by simpa using h2
      rw [if_neg h2'] at hK
      have hd := Int.ediv_mul_le (n + to - 1) (show to ≠ 0 by omega)
      have hd0 : 0 ≤ (n + to - 1) / to := Int.ediv_nonneg (by omega) (by omega)
      have hd1 : (n + to - 1) / to ≤ n + to - 1 := Int.ediv_le_self _ (by omega)
      have hm : 0 ≤ (n + to - 1) / to * to := Int.mul_nonneg hd0 (by omega)
      rw [wrap_i64 (x := n + to) (by omega) (by omega), wrap_i64 (x := n + to - 1) (by omega) (by omega)]
      refine quo_i (by omega) ?_
      rw [Int.tdiv_eq_ediv_of_nonneg (by omega), wrap_i64 (x := (n + to - 1) / to) (by omega) (by omega), wrap_i64 (x := (n + to - 1) / to * to) (by omega) (by omega)]
      refine cond_i (fun h3 => ?_) (fun h3 => ?_)
      · rw [if_pos (by simpa using h3)] at hK; exact hK
      · rw [if_neg (by simpa using h3)] at hK; exact hK

/-- slices.Clone, at whatever element type. -/
theorem clone_shape {P : Program} {t e sz : Nat} {z : Value} [SliceTy P t e sz z] {o1 o2 : Operand} {s : Sl} {cs : List Value} {K : Sl → World → Prop} {w : World} (hs : Rd w s sz cs) (h1 : ∀ v ∈ cs, v.oneCell' = true) (hlen : s.len ≤ 68719476736)
    (hK : ∀ v w', Ext w w' → Own w' w.heap.size v sz cs → v.len = s.len → K v w') :
    semS P (binS .eql t o1 o2 (.slice s.a s.len s.cap) (.slice none 0 0)) (.one .bool) (fun x1 w =>
      cond x1 (K ⟨none, 0, 0⟩ w) (semS P (Instr.buildSlice t 0 #[]) (.one .slc) (fun x2 w =>
      semS P (Builtin.append_ #[t, t] t #[.slice x2.a x2.len x2.cap, .slice s.a s.len s.cap]) (.one .slc) (fun r3 w => K r3 w) w) w)) w := by
  refine eqNil_i ?_
  refine cond_i (fun h => ?_) (fun h => ?_)
  · have hn : s.a = none := by simpa using h
    have h0 := (hs.nil hn).1
    have hc : cs = [] := List.eq_nil_of_length_eq_zero (by rw [hs.len, h0]; simp)
    refine hK Sl.nil w (Fr.refl _ _) ?_ h0.symm
    rw [hc]; exact Own.nilSl _ _ _
  · refine buildSlice_i #[] (by simp [Instr.fill]) (by simp) (by omega) fun v w1 e1 o1 hl => ?_
    have hb : w.heap.size ≤ w1.heap.size := e1.size
    refine append_i o1 (hs.ext e1) h1 (by omega) hb fun v2 w2 f2 o2 hl2 hin => ?_
    have e2 : Ext w w2 := Ext.own e1 f2 fun i hi => (o1.inB hi).1
    exact hK v2 w2 e2 (by simpa using o2) (by omega)
theorem clone_s {s : Sl} {bs : List UInt8} {K : Sl → World → Prop} {w : World} (hs : Bts w s bs) (hlen : bs.length ≤ 68719476736) (hK : ∀ v w', Ext w w' → OwnB w' w.heap.size v bs → K v w') :
    callS Tryz.prog 29 #[.slice s.a s.len s.cap] [.one .slc] K w :=
  f29_ok (clone_shape hs bytes_one (by rw [Bts.len hs]; exact hlen) fun v w' h1 h2 _ => hK v w' h1 h2)

theorem cut_s {s : Sl} {bs : List UInt8} {off len : Int} {K : Sl → Int → World → Prop} {w : World} (hs : Bts w s bs) (hlen : bs.length ≤ 68719476736) (ho : S.I64 off) (hl : S.I64 len)
    (hK : ∀ v w', Ext w w' → OwnB w' w.heap.size v (S.cut bs off len).1 → K v (S.cut bs off len).2 w') :
    callS Tryz.prog 76 #[.slice s.a s.len s.cap, .int .i64 off, .int .i64 len] [.one .slc, .one (.int .i64)] K w := by
  refine f76_ok ?_
  unfold f76
  have hbl := Bts.len hs
  have hcap := hs.cap
  refine within_s ho hl (by constructor <;> omega) ?_
  unfold S.cut at hK
  rw [hbl]
  refine cond_i (fun h => ?_) (fun h => ?_)
  · have h' : S.within off len bs.length = false := by simpa using h
    rw [if_pos h'] at hK
    exact hK Sl.nil w (Fr.refl _ _) (Own.nilSl _ _ _)
  · have h' : S.within off len bs.length = true := by simpa using h
    rw [if_neg (by simp [h'])] at hK
    obtain ⟨h1, h2, h3, h4, h5⟩ := S.within_iff.1 h'
    rw [wrap_i64 (by omega) (by omega)]
    rw [← hbl]
    refine sl2_i (by omega) (by omega) (by omega) ?_
    have hc := Bts.cut hs (l := off.toNat) (hi := (off + len).toNat) (by omega) (by omega)
    rw [show (off + len).toNat - off.toNat = len.toNat by omega] at hc
    exact clone_s hc (by simp; omega) fun v w' e o => hK v w' e o

/-- One byte appended. -/
theorem append1_i {P : Program} {t e : Nat} {z : Value} [SliceTy P t e 1 z] {s : Sl} {xs : List UInt8} {B : Nat} {K : Sl → World → Prop} {w : World} {n : Int} (b : UInt8) (hn : n = (b.toNat : Int)) (ho : OwnB w B s xs)
    (hlen : xs.length ≤ 68719476735) (hB : B ≤ w.heap.size) (hK : ∀ v w', Fr s.inB w w' → OwnB w' B v (xs ++ [b]) → (∀ k, v.inB k → s.inB k ∨ w.heap.size ≤ k) → K v w') :
    semS P (Instr.buildSlice t 1 #[(0, .int .u8 n)]) (.one .slc) (fun x w => semS P (Builtin.append_ #[t, t] t #[.slice s.a s.len s.cap, .slice x.a x.len x.cap]) (.one .slc) K w) w := by
  subst hn
  refine buildSlice_i (t := t) (e := e) (z := z) #[.int .u8 b.toNat] ?_ rfl (by omega) fun x w1 e1 o1 hl => ?_
  · have hr : ∀ (f : Nat → Value) (x : Value), ((Array.range 1).map f).setIfInBounds 0 x = #[x] := fun f x => by
      apply Array.ext
      · simp
      · intro i h1 h2
        have : i = 0 := by simp at h2; omega
        subst this; simp
    simp only [Instr.fill, Value.cells, Nat.mul_one, Nat.reduceMul]
    simp [hr]
  · have hx : Bts w1 x [b] := o1.rd
    refine appendB_i (Own.ext ho e1) hx (by simp; omega) (by have := e1.size; omega) fun v w2 f2 o2 hin => ?_
    refine hK v w2 (Fr.trans (Ext.fr e1) f2 (fun _ _ h => h)) o2 fun k hk => ?_
    rcases hin k hk with h | h
    · exact .inl h
    · have := e1.size; exact .inr (by omega)

theorem pad_s {s : Sl} {bs : List UInt8} {to : Int} {K : Sl → Int → World → Prop} {w : World} (hs : Bts w s bs) (hlen : bs.length ≤ 68719400000) (ht : S.I64 to)
    (hK : ∀ v w', Ext w w' → OwnB w' w.heap.size v (S.pad bs to).1 → K v (S.pad bs to).2 w') :
    callS Tryz.prog 54 #[.slice s.a s.len s.cap, .int .i64 to] [.one .slc, .one (.int .i64)] K w := by
  refine f54_ok ?_
  unfold f54
  have hbl := Bts.len hs
  refine align_s (by constructor <;> omega) ht ?_
  rw [show S.align (s.len : Int) to = S.align (bs.length : Int) to by rw [hbl]]
  unfold S.pad at hK
  refine cond_i (fun h => ?_) (fun h => ?_)
  · have h' : (S.align bs.length to).2 ≠ 0 := by simpa using h
    rw [if_pos h'] at hK
    exact hK Sl.nil w (Fr.refl _ _) (Own.nilSl _ _ _)
  · have h' : ¬ (S.align bs.length to).2 ≠ 0 := by simpa using h
    rw [if_neg h'] at hK
    have hal : (S.align bs.length to).2 = 0 → (bs.length : Int) ≤ (S.align bs.length to).1 ∧ (S.align bs.length to).1 ≤ bs.length + 65536 := by
      unfold S.align
      split
      · intro h; simp at h
      · rename_i h1
        split
        · intro h; simp at h
        · split
          · intro _
            have h2 := Int.mul_ediv_add_emod (bs.length + to - 1) to
            have h3 := Int.emod_nonneg ((bs.length : Int) + to - 1) (show to ≠ 0 by omega)
            have h4 := Int.emod_lt_of_pos ((bs.length : Int) + to - 1) (show 0 < to by omega)
            have h5 : to * (((bs.length : Int) + to - 1) / to) = ((bs.length : Int) + to - 1) / to * to := Int.mul_comm _ _
            simp only
            omega
          · intro h; simp at h
    obtain ⟨h1, h2⟩ := hal (by simpa using h')
    generalize (S.align bs.length to).1 = m at h1 h2 hK
    refine clone_s hs (by omega) fun v w1 e1 o1 => ?_
    have hvl := OwnB.len o1
    rw [show m - (s.len : Int) = m - (bs.length : Int) by rw [hbl], wrap_i64 (by omega) (by omega)]
    have hz0 : ∀ n, (Builtin.zeroCells (Value.int .u8 0).cells n).toList = List.replicate n (vB 0) := fun n => zeroCells_one _ n
    refine appendZ_i o1 (by omega) ?_ (by omega) e1.size fun v2 w2 f2 o2 hl2 hin => ?_
    · rw [hz0]; intro x hx; rw [List.eq_of_mem_replicate hx]; rfl
    · rw [hz0] at o2
      have e2 : Ext w w2 := Ext.own e1 f2 fun i hi => (o1.inB hi).1
      refine hK v2 w2 e2 ?_
      have : (m - (bs.length : Int)).toNat = m.toNat - bs.length := by omega
      rw [this] at o2
      unfold OwnB
      rw [List.map_append, List.map_replicate]; exact o2
end Go.Proofs.YteopoodhclljjaaGreatDoor

/-! Pure02 -/
namespace Go.S
open Go Go.Eng

/-- A sum of this make: the kind of its words, their bytes, the rounds, the turns, the constants, the state at first, how many bytes tell the length. -/
structure Sha where
  k : IntKind
  b : Nat
  r : Nat
  a1 : Int
  a2 : Int
  a3 : Int
  b1 : Int
  b2 : Int
  b3 : Int
  c1 : Int
  c2 : Int
  c3 : Int
  d1 : Int
  d2 : Int
  d3 : Int
  K : List Int
  H : List Int
  lb : Nat
namespace Sha
variable (S : Sha)
def rot (x n : Int) : Int := orI S.k (shrI S.k x n) (shlI S.k x (S.k.bits - n))
def add (x y : Int) : Int := S.k.wrap (x + y)
def s0 (x : Int) : Int := xorI S.k (xorI S.k (S.rot x S.a1) (S.rot x S.a2)) (shrI S.k x S.a3)
def s1 (x : Int) : Int := xorI S.k (xorI S.k (S.rot x S.b1) (S.rot x S.b2)) (shrI S.k x S.b3)
def S1 (x : Int) : Int := xorI S.k (xorI S.k (S.rot x S.c1) (S.rot x S.c2)) (S.rot x S.c3)
def S0 (x : Int) : Int := xorI S.k (xorI S.k (S.rot x S.d1) (S.rot x S.d2)) (S.rot x S.d3)
def ch (e f g : Int) : Int := xorI S.k (andI S.k e f) (andI S.k (xorI S.k (IntKind.max S.k) e) g)
def maj (a b c : Int) : Int := xorI S.k (xorI S.k (andI S.k a b) (andI S.k a c)) (andI S.k b c)
/-- The word that the n-th one is, where w has n words. -/
def next (w : List Int) : Int := S.add (S.add (S.add (w.getD (w.length - 16) 0) (S.s0 (w.getD (w.length - 15) 0))) (w.getD (w.length - 7) 0)) (S.s1 (w.getD (w.length - 2) 0))
def ext : Nat → List Int → List Int
  | 0, w => w
  | n + 1, w => ext n (w ++ [S.next w])
def word (bs : List UInt8) (i : Nat) : Int := (beN ((bs.drop (S.b * i)).take S.b) : Int)
def words (bs : List UInt8) : List Int := (List.range 16).map (S.word bs)
def sched (bs : List UInt8) : List Int := S.ext (S.r - 16) (S.words bs)
structure St where
  a : Int
  b : Int
  c : Int
  d : Int
  e : Int
  f : Int
  g : Int
  h : Int
def St.list (s : St) : List Int := [s.a, s.b, s.c, s.d, s.e, s.f, s.g, s.h]
def tt (s : St) (k w : Int) : Int := S.add (S.add (S.add (S.add s.h (S.S1 s.e)) (S.ch s.e s.f s.g)) k) w
def uu (s : St) : Int := S.add (S.S0 s.a) (S.maj s.a s.b s.c)
def step (s : St) (k w : Int) : St := ⟨S.add (S.tt s k w) (S.uu s), s.a, s.b, s.c, S.add s.d (S.tt s k w), s.e, s.f, s.g⟩
/-- n rounds over the words w. -/
def rounds (s : St) (w : List Int) : Nat → St
  | 0 => s
  | n + 1 => S.step (rounds s w n) (S.K.getD n 0) (w.getD n 0)
def plus (s t : St) : St := ⟨S.add s.a t.a, S.add s.b t.b, S.add s.c t.c, S.add s.d t.d, S.add s.e t.e, S.add s.f t.f, S.add s.g t.g, S.add s.h t.h⟩
/-- The state behind one block. -/
def comp (s : St) (bs : List UInt8) : St := S.plus s (S.rounds s (S.sched bs) S.r)
def blk : Nat := 16 * S.b
/-- The state behind so many blocks. -/
def fold (s : St) (bs : List UInt8) : Nat → St
  | 0 => s
  | n + 1 => S.comp (fold s bs n) ((bs.drop (S.blk * n)).take S.blk)
def first : St := ⟨S.H.getD 0 0, S.H.getD 1 0, S.H.getD 2 0, S.H.getD 3 0, S.H.getD 4 0, S.H.getD 5 0, S.H.getD 6 0, S.H.getD 7 0⟩
/-- How many noughts stand behind the 128. -/
def gap (n : Nat) : Nat := (S.blk + (S.blk - S.lb) - (n + 1) % S.blk) % S.blk
def padded (bs : List UInt8) : List UInt8 := bs ++ [128] ++ List.replicate (S.gap bs.length) 0 ++ be S.lb (8 * bs.length)
def out (s : St) : List UInt8 := s.list.flatMap fun x => be S.b x.toNat
/-- The sum of a text. -/
def sum (bs : List UInt8) : List UInt8 := S.out (S.fold S.first (S.padded bs) ((S.padded bs).length / S.blk))

theorem ext_len : ∀ (n : Nat) (w : List Int), (S.ext n w).length = w.length + n
  | 0, w => rfl
  | n + 1, w => by rw [ext, ext_len n]; simp; omega
theorem ext_snoc : ∀ (n : Nat) (w : List Int), S.ext (n + 1) w = S.ext n w ++ [S.next (S.ext n w)]
  | 0, w => rfl
  | n + 1, w => by
    rw [ext, ext_snoc n, ext]
theorem words_len (bs : List UInt8) : (S.words bs).length = 16 := by simp [words]
/-- Rounds of a list look only at its blocks. -/
theorem fold_append (s : St) (bs cs : List UInt8) : ∀ n, S.blk * n ≤ bs.length → S.fold s (bs ++ cs) n = S.fold s bs n
  | 0, _ => rfl
  | n + 1, h => by
    have h' : S.blk * n + S.blk ≤ bs.length := by rw [← Nat.mul_succ]; exact h
    rw [fold, fold, fold_append s bs cs n (by omega)]
    congr 1
    rw [List.drop_append_of_le_length (by omega), List.take_append_of_le_length (by simp; omega)]
theorem fold_add (s : St) (bs : List UInt8) (m : Nat) : ∀ n, S.fold s bs (m + n) = S.fold (S.fold s bs m) (bs.drop (S.blk * m)) n
  | 0 => rfl
  | n + 1 => by
    rw [← Nat.add_assoc, fold, fold, fold_add s bs m n, List.drop_drop, Nat.mul_add]
end Sha
theorem orI_comm (k : IntKind) (x y : Int) : orI k x y = orI k y x := by unfold orI; rw [BitVec.or_comm]
end Go.S

/-! Chunk -/
namespace Go.Proofs.YteopoodhclljjaaGreatDoor
open Go Go.Eng

theorem chunk_s {s : Sl} {n : Int} {K : Value → World → Prop} {w : World} (hn : 1 ≤ n) (hK : ∀ g1 g2 w', Ext w w' → w.heap.size ≤ g1 → w.heap.size ≤ g2 → Var w' g1 [.slice s.a s.len s.cap] → Var w' g2 [.int .i64 n] → K (.func (.func 82) #[] #[.pointer (some (at_ g1 0)), .pointer (some (at_ g2 0))]) w') :
    callS Tryz.prog 55 #[.slice s.a s.len s.cap, .int .i64 n] [.one .any] K w := by
  refine f55_ok ?_
  unfold f55
  refine box_i fun g1 w1 e1 hg1 v1 => ?_
  refine box_i fun g2 w2 e2 hg2 v2 => ?_
  refine ld1_i (l := .int .i64) (o := 0) n v2 rfl ?_
  have hf : decide (n < 1) = false := by simp; omega
  refine cond_i (fun h => by rw [show decide (n < 1) = true from h] at hf; cases hf) (fun _ => ?_)
  exact hK g1 g2 w2 (e1.trans e2) hg1 (by have := e1.size; omega) (v1.ext e2) v2
theorem chunk1_s {yv : Value} {g1 g2 n : Nat} {s : Sl} {bs : List UInt8} (I : Nat → World → Prop) {K : World → Prop} {w : World} (hn : 1 ≤ n) (hn2 : n ≤ 65536) (hlen : bs.length ≤ 68719476736) (h0 : I 0 w)
    (hI : ∀ i w', I i w' → Var w' g1 [.slice s.a s.len s.cap] ∧ Var w' g2 [.int .i64 (n : Int)] ∧ Bts w' s bs ∧ I i w'.drew)
    (hy : ∀ i (u : Sl) w' (R : Bool → World → Prop), I i w' → n * i < bs.length → Bts w' u ((bs.drop (n * i)).take n) → (∀ k, u.inB k → s.inB k) → (∀ w'', I (i + 1) w'' → R true w'') → callY Tryz.prog (callSem yv #[.slice u.a u.len u.cap]) [.one .bool] R w')
    (hK : ∀ i w', I i w' → bs.length ≤ n * i → (i = 0 ∨ n * (i - 1) < bs.length) → K w') :
    callS Tryz.prog 82 #[yv, .pointer (some (at_ g1 0)), .pointer (some (at_ g2 0))] [] K w := by
  refine f82_ok ?_
  unfold f82
  refine loop_i (fun (x : Int) w' => ∃ i : Nat, x = ((n * i : Nat) : Int) ∧ I i w' ∧ (i = 0 ∨ n * (i - 1) < bs.length)) (fun x _ => bs.length + n - x.toNat) ⟨0, by simp, h0, .inl rfl⟩ ?_
  rintro x w1 again ⟨i, rfl, hi, hb⟩ hag
  obtain ⟨v1, v2, hs, hd⟩ := hI i w1 hi
  have hbl := Bts.len hs
  have hcap := hs.cap
  have hni : n * i ≤ bs.length + n := by
    rcases hb with rfl | hb
    · simp
    · have : n * i = n * (i - 1) + n ∨ i = 0 := by
        rcases Nat.eq_zero_or_pos i with h | h
        · exact .inr h
        · left; rw [← Nat.mul_succ]; congr 1; omega
      rcases this with h | h
      · omega
      · subst h; simp
  refine ld1_i (l := .slc) (o := 0) s v1 rfl ?_
  refine cond_i (fun hlt => ?_) (fun hge => ?_)
  · have hlt' : n * i < bs.length := by simp at hlt; omega
    obtain ⟨u1, u2, us, _⟩ := hI i _ hd
    refine ⟨fun x => x = w1.drew, rfl, ?_⟩
    refine ld1Q_i (l := .int .i64) (o := 0) (n : Int) (fun x hx => by rw [hx]; exact u2) rfl ?_
    refine ld1Q_i (l := .slc) (o := 0) s (fun x hx => by rw [hx]; exact u1) rfl ?_
    refine slLoQ_i (by omega) (by omega) ?_
    have hcl : (s.cut 1 ((n * i : Nat) : Int).toNat s.len).len = bs.length - n * i := by simp only [Sl.cut]; omega
    refine ld1_i (l := .slc) (o := 0) s u1 rfl ?_
    have hm : (if ((s.cut 1 ((n * i : Nat) : Int).toNat s.len).len : Int) < (n : Int) then ((s.cut 1 ((n * i : Nat) : Int).toNat s.len).len : Int) else (n : Int)) = ((min (bs.length - n * i) n : Nat) : Int) := by
      rw [hcl]; split <;> omega
    rw [hm]
    rw [wrap_i64 (x := ((n * i : Nat) : Int) + ((min (bs.length - n * i) n : Nat) : Int)) (by omega) (by omega)]
    refine sl3_i (by omega) (by omega) (by omega) (by omega) ?_
    have hc := Bts.cut3 us (l := n * i) (hi := n * i + min (bs.length - n * i) n) (by omega) (by omega)
    rw [show ((n * i : Nat) : Int).toNat = n * i by omega, show (((n * i : Nat) : Int) + ((min (bs.length - n * i) n : Nat) : Int)).toNat = n * i + min (bs.length - n * i) n by omega]
    have htake : (bs.drop (n * i)).take (n * i + min (bs.length - n * i) n - n * i) = (bs.drop (n * i)).take n := by
      rw [show n * i + min (bs.length - n * i) n - n * i = min (bs.length - n * i) n by omega]
      rcases Nat.le_total (bs.length - n * i) n with h | h
      · rw [Nat.min_eq_left h, List.take_of_length_le (by simp), List.take_of_length_le (by simp; omega)]
      · rw [Nat.min_eq_right h]
    rw [htake] at hc
    refine hy i _ _ _ hd hlt' hc (fun k hk => Sl.cut3_inB hk) fun w2 h2 => ?_
    refine cond_i (fun h => by simp at h) (fun _ => ?_)
    obtain ⟨x1, x2, _, _⟩ := hI (i + 1) w2 h2
    refine ld1_i (l := .int .i64) (o := 0) (n : Int) x2 rfl ?_
    have hs1 : n * (i + 1) = n * i + n := Nat.mul_succ n i
    refine hag _ w2 ⟨i + 1, ?_, h2, .inr (by simpa using hlt')⟩ ?_
    · rw [wrap_i64 (by omega) (by omega)]; omega
    · rw [wrap_i64 (by omega) (by omega)]; omega
  · exact hK i w1 hi (by simp at hge; omega) hb
end Go.Proofs.YteopoodhclljjaaGreatDoor

/-! Pure08 -/
namespace Go.S
open Go Go.Eng

/-- How many bytes an algorithm's digest has. -/
def dsz (alg : Int) : Int := if alg == 1 then 32 else if alg == 2 then 64 else 0
/-- A number through another one, rounded up. -/
def up (n a : Nat) : Nat := (n + a - 1) / a
def pows : List Nat := [64, 128, 256, 512, 1024, 2048, 4096]
structure Shp where
  s : Int
  b : Int
  d : Int
def Shp.right (x : Shp) : Bool := (decide (1 ≤ x.s) && decide (x.s ≤ 1099511627776)) && (x.d == 32 || x.d == 64) && decide (x.b ≥ 2 * x.d) && decide (x.b.toNat ∈ pows)
namespace Shp
def sN (x : Shp) : Nat := x.s.toNat
def bN (x : Shp) : Nat := x.b.toNat
def dN (x : Shp) : Nat := x.d.toNat
def aN (x : Shp) : Nat := x.bN / x.dN
/-- How many blocks a level has. -/
def c (x : Shp) : Nat → Nat
  | 0 => up x.sN x.bN
  | k + 1 => up (x.c k) x.aN
/-- The top level. -/
def h (x : Shp) : Nat := (List.range 64).findIdx fun k => decide (x.c k ≤ 1)
def cs (x : Shp) : List Nat := (List.range (x.h + 1)).map x.c
/-- How many blocks stand ahead of a level's, in the tree. -/
def sumA (x : Shp) (l : Nat) : Nat := (x.cs.drop (l + 1)).sum
structure Ok (x : Shp) : Prop where
  s : x.s = x.sN
  b : x.b = x.bN
  d : x.d = x.dN
  s1 : 1 ≤ x.sN
  s2 : x.sN ≤ 1099511627776
  b1 : 64 ≤ x.bN
  b2 : x.bN ≤ 4096
  dd : x.dN = 32 ∨ x.dN = 64
  a1 : 2 ≤ x.aN
  a2 : x.aN ≤ 128
  ba : x.bN = x.aN * x.dN
theorem ok_of {x : Shp} (h : x.right = true) : x.Ok := by
  unfold right at h
  simp only [Bool.and_eq_true, decide_eq_true_eq, Bool.or_eq_true, beq_iff_eq] at h
  obtain ⟨⟨⟨⟨h1, h2⟩, h3⟩, h4⟩, h5⟩ := h
  have hb : x.b.toNat = 64 ∨ x.b.toNat = 128 ∨ x.b.toNat = 256 ∨ x.b.toNat = 512 ∨ x.b.toNat = 1024 ∨ x.b.toNat = 2048 ∨ x.b.toNat = 4096 := by simpa [pows] using h5
  have hd : x.dN = 32 ∨ x.dN = 64 := by unfold dN; omega
  have hd2 : x.d = x.dN := by unfold dN; omega
  have hb2 : x.bN = 64 ∨ x.bN = 128 ∨ x.bN = 256 ∨ x.bN = 512 ∨ x.bN = 1024 ∨ x.bN = 2048 ∨ x.bN = 4096 := hb
  have hb3 : x.b = x.bN := by unfold bN; omega
  have hge : x.bN ≥ 2 * x.dN := by omega
  have ha : 2 ≤ x.aN ∧ x.aN ≤ 128 ∧ x.bN = x.aN * x.dN := by
    unfold aN
    rcases hd with e | e <;> rw [e] at hge ⊢ <;> rcases hb2 with q | q | q | q | q | q | q <;> rw [q] at hge ⊢ <;> omega
  exact ⟨by unfold sN; omega, hb3, hd2, by unfold sN; omega, by unfold sN; omega, by omega, by omega, hd, ha.1, ha.2.1, ha.2.2⟩
end Shp
theorem up_pos {n a : Nat} (hn : 1 ≤ n) (ha : 1 ≤ a) : 1 ≤ up n a := by
  unfold up
  rw [Nat.le_div_iff_mul_le (by omega)]; omega
theorem up_le {n a : Nat} (ha : 1 ≤ a) : up n a ≤ n := by
  unfold up
  rw [Nat.div_le_iff_le_mul_add_pred (by omega)]
  have := Nat.mul_le_mul_right n ha
  omega
theorem up_lt {n a : Nat} (hn : 2 ≤ n) (ha : 2 ≤ a) : up n a < n := by
  unfold up
  rw [Nat.div_lt_iff_lt_mul (by omega)]
  have h1 : n * 2 ≤ n * a := Nat.mul_le_mul_left n ha
  have h2 : 2 * a ≤ n * a := Nat.mul_le_mul_right a hn
  omega
theorem up_half {n a m : Nat} (ha : 2 ≤ a) (h : n ≤ 2 ^ (m + 1)) : up n a ≤ 2 ^ m := by
  unfold up
  apply Nat.le_of_lt_succ
  rw [Nat.div_lt_iff_lt_mul (by omega)]
  have h1 : 2 ^ m * 2 ≤ 2 ^ m * a := Nat.mul_le_mul_left _ ha
  rw [Nat.pow_succ] at h
  rw [Nat.succ_mul]
  generalize 2 ^ m = p at h h1 ⊢
  generalize p * a = q at h1 ⊢
  omega
/-- Rounded up: the least number of whole rows that hold n. -/
theorem up_iff {n a k : Nat} (ha : 1 ≤ a) (hn : 1 ≤ n) : k < up n a ↔ k * a < n := by
  unfold up
  rw [Nat.lt_iff_add_one_le, Nat.le_div_iff_mul_le (by omega), Nat.succ_mul]
  omega
namespace Shp
variable {x : Shp}
theorem c_pos (o : x.Ok) : ∀ k, 1 ≤ x.c k
  | 0 => up_pos o.s1 (by have := o.b1; omega)
  | k + 1 => up_pos (c_pos o k) (by have := o.a1; omega)
theorem c_half (o : x.Ok) : ∀ k, k ≤ 34 → x.c k ≤ 2 ^ (34 - k)
  | 0, _ => by
    show up x.sN x.bN ≤ 2 ^ 34
    unfold up
    apply Nat.le_of_lt_succ
    rw [Nat.div_lt_iff_lt_mul (by have := o.b1; omega)]
    have := Nat.mul_le_mul_left (2 ^ 34 + 1) o.b1
    have h2 := o.s2
    have e : (2 : Nat) ^ 34 = 17179869184 := rfl
    rw [e] at this ⊢
    rw [show Nat.succ 17179869184 = 17179869184 + 1 by rfl, Nat.add_mul]
    have h3 := Nat.mul_le_mul_left 17179869184 o.b1
    omega
  | k + 1, h => by
    refine up_half o.a1 ?_
    rw [show 34 - (k + 1) + 1 = 34 - k by omega]
    exact c_half o k (by omega)
theorem c_le (o : x.Ok) (k : Nat) : x.c (k + 1) ≤ x.c k := up_le (by have := o.a1; omega)
theorem c_anti (o : x.Ok) {j k : Nat} (h : j ≤ k) : x.c k ≤ x.c j := by
  induction k with
  | zero => rw [show j = 0 by omega]; exact Nat.le_refl _
  | succ k ih =>
    by_cases hj : j = k + 1
    · rw [hj]; exact Nat.le_refl _
    · exact Nat.le_trans (c_le o k) (ih (by omega))
theorem c_max (o : x.Ok) (k : Nat) : x.c k ≤ 17179869184 := Nat.le_trans (c_anti o (Nat.zero_le k)) (c_half o 0 (by omega))
theorem c_lt (o : x.Ok) {k : Nat} (h : 1 < x.c k) : x.c (k + 1) < x.c k := up_lt h o.a1
theorem h_le (o : x.Ok) : x.h ≤ 34 := by
  unfold h
  apply Nat.le_of_lt_succ
  rw [Nat.lt_succ_iff]
  apply Classical.byContradiction
  intro hn
  have h1 := List.not_of_lt_findIdx (p := fun k => decide (x.c k ≤ 1)) (xs := List.range 64) (i := 34) (by omega)
  have h2 := c_half o 34 (by omega)
  simp at h1
  have e : (2 : Nat) ^ (34 - 34) = 1 := rfl
  omega
theorem h_top (o : x.Ok) : x.c x.h = 1 := by
  have hl := h_le o
  have h1 := List.findIdx_getElem (p := fun k => decide (x.c k ≤ 1)) (xs := List.range 64) (w := by show x.h < _; rw [List.length_range]; omega)
  simp only [List.getElem_range, decide_eq_true_eq] at h1
  have := c_pos o x.h
  have h2 : x.c x.h ≤ 1 := h1
  omega
theorem h_lt (o : x.Ok) {k : Nat} (hk : k < x.h) : 1 < x.c k := by
  have h1 := List.not_of_lt_findIdx (p := fun k => decide (x.c k ≤ 1)) (xs := List.range 64) (i := k) hk
  simp at h1
  exact h1
theorem h_iff (o : x.Ok) {k : Nat} : x.c k ≤ 1 ↔ x.h ≤ k := by
  constructor
  · intro h
    apply Classical.byContradiction
    intro hn
    have := h_lt o (k := k) (by omega)
    omega
  · intro h
    have := c_anti o h
    rw [h_top o] at this; exact this
theorem cs_len : x.cs.length = x.h + 1 := by simp [cs]
theorem cs_get {k : Nat} (hk : k ≤ x.h) : x.cs[k]? = some (x.c k) := by
  unfold cs
  rw [List.getElem?_map, List.getElem?_range (by omega)]; rfl
theorem sum_le {l : List Nat} {m : Nat} (h : ∀ y ∈ l, y ≤ m) : l.sum ≤ l.length * m := by
  induction l with
  | nil => simp
  | cons y l ih =>
    have h1 := h y (by simp)
    have h2 := ih fun z hz => h z (by simp [hz])
    rw [List.sum_cons, List.length_cons, Nat.succ_mul]; omega
theorem cs_mem (o : x.Ok) {y : Nat} (h : y ∈ x.cs) : y ≤ 17179869184 := by
  obtain ⟨k, _, rfl⟩ := List.mem_map.1 h
  exact c_max o k
theorem sumA_le (o : x.Ok) (l : Nat) : x.sumA l ≤ 601295421440 := by
  have h1 := sum_le (l := x.cs.drop (l + 1)) (m := 17179869184) fun y hy => cs_mem o (List.mem_of_mem_drop hy)
  have h2 : (x.cs.drop (l + 1)).length ≤ 35 := by rw [List.length_drop, cs_len]; have := h_le o; omega
  have h3 := Nat.mul_le_mul_right 17179869184 h2
  unfold sumA
  omega
theorem sumA_step {l : Nat} (hl : l < x.h) : x.sumA l = x.c (l + 1) + x.sumA (l + 1) := by
  unfold sumA
  have hlt : l + 1 < x.cs.length := by rw [cs_len]; omega
  rw [List.drop_eq_getElem_cons hlt, List.sum_cons]
  congr 1
  have := cs_get (x := x) (k := l + 1) (by omega)
  rw [List.getElem?_eq_getElem hlt] at this
  exact Option.some.inj this
theorem sumA_top : x.sumA x.h = 0 := by
  unfold sumA
  rw [List.drop_of_length_le (by rw [cs_len]; omega)]; rfl
end Shp

/-! ### how many ones a number has -/
def m0 : Nat := 6148914691236517205
def m1 : Nat := 3689348814741910323
def m2 : Nat := 1085102592571150095
def q64 : Nat := 18446744073709551616
def on1 (p : Nat) : Nat := (((p >>> 1) &&& m0) + (p &&& m0)) % q64
def on2 (y : Nat) : Nat := (((y >>> 2) &&& m1) + (y &&& m1)) % q64
def on3 (y : Nat) : Nat := (((y >>> 4) + y) % q64) &&& m2
def on4 (k y : Nat) : Nat := ((y >>> k) + y) % q64
def onesR (p : Nat) : Nat := on4 32 (on4 16 (on4 8 (on3 (on2 (on1 p)))))
def ones (p : Nat) : Nat := onesR p &&& 127
theorem onesR_small : (List.range 4097).all (fun p => decide (onesR p < 9223372036854775808)) = true := by decide +kernel
theorem onesR_lt {p : Nat} (h2 : p ≤ 4096) : onesR p < 9223372036854775808 := by
  have := List.all_eq_true.1 onesR_small p (List.mem_range.2 (by omega))
  exact of_decide_eq_true this
theorem ones_pows : (List.range 4097).all (fun p => decide (p < 64) || (ones p == 1) == decide (p ∈ pows)) = true := by decide +kernel
theorem ones_iff {p : Nat} (h1 : 64 ≤ p) (h2 : p ≤ 4096) : (ones p == 1) = decide (p ∈ pows) := by
  have := List.all_eq_true.1 ones_pows p (List.mem_range.2 (by omega))
  simp only [Bool.or_eq_true, decide_eq_true_eq] at this
  rcases this with h | h
  · omega
  · simpa using h
theorem shr_n {a k : Nat} (hk : k ≤ 64) : shrI .u64 (a : Int) (k : Int) = ((a >>> k : Nat) : Int) := by
  rw [shrI_lit _ _ _ (by simpa [IntKind.bits] using hk), Int.toNat_natCast, Nat.shiftRight_eq_div_pow]
  simp
theorem add_n (a b : Nat) : IntKind.wrap .u64 ((a : Int) + (b : Int)) = (((a + b) % q64 : Nat) : Int) := by
  rw [wrap_u64_mod]
  simp [q64]
theorem lt_q {a b : Nat} (h : a < q64) : a &&& b < q64 := Nat.lt_of_le_of_lt Nat.and_le_left h
theorem shr_lt {a k : Nat} (h : a < q64) : a >>> k < q64 := by
  rw [Nat.shiftRight_eq_div_pow]
  exact Nat.lt_of_le_of_lt (Nat.div_le_self _ _) h
theorem mod_lt (a : Nat) : a % q64 < q64 := Nat.mod_lt _ (by decide)
theorem and_n {a b : Nat} (ha : a < q64) (hb : b < q64) : andI .u64 (a : Int) (b : Int) = ((a &&& b : Nat) : Int) := and_u64 ha hb
theorem on1_i {p : Nat} (h : p < q64) : IntKind.wrap .u64 ((andI .u64 (shrI .u64 (p : Int) 1) 6148914691236517205) + (andI .u64 (p : Int) 6148914691236517205)) = (on1 p : Int) := by
  have e := shr_n (a := p) (k := 1) (by omega)
  rw [show ((1 : Nat) : Int) = 1 from rfl] at e
  rw [e, show (6148914691236517205 : Int) = (m0 : Nat) from rfl, and_n (shr_lt h) (by decide), and_n h (by decide), add_n]; rfl
theorem on2_i {p : Nat} (h : p < q64) : IntKind.wrap .u64 ((andI .u64 (shrI .u64 (p : Int) 2) 3689348814741910323) + (andI .u64 (p : Int) 3689348814741910323)) = (on2 p : Int) := by
  have e := shr_n (a := p) (k := 2) (by omega)
  rw [show ((2 : Nat) : Int) = 2 from rfl] at e
  rw [e, show (3689348814741910323 : Int) = (m1 : Nat) from rfl, and_n (shr_lt h) (by decide), and_n h (by decide), add_n]; rfl
theorem on3_i {p : Nat} (h : p < q64) : andI .u64 (IntKind.wrap .u64 ((shrI .u64 (p : Int) 4) + (p : Int))) 1085102592571150095 = (on3 p : Int) := by
  have e := shr_n (a := p) (k := 4) (by omega)
  rw [show ((4 : Nat) : Int) = 4 from rfl] at e
  rw [e, add_n, show (1085102592571150095 : Int) = (m2 : Nat) from rfl, and_n (mod_lt _) (by decide)]; rfl
theorem on4_i {p : Nat} (k : Nat) (hk : k ≤ 64) (h : p < q64) : IntKind.wrap .u64 ((p : Int) + (shrI .u64 (p : Int) (k : Int))) = (on4 k p : Int) := by
  rw [shr_n hk, add_n, Nat.add_comm]; rfl
theorem on5_i {p : Nat} (h : p < 9223372036854775808) : andI .i64 (IntKind.wrap .i64 (p : Int)) 127 = ((p &&& 127 : Nat) : Int) := by
  rw [wrap_i64 (by omega) (by omega), show (127 : Int) = ((127 : Nat) : Int) from rfl, andI_nat _ (Nat.lt_of_lt_of_le h (by rw [pow_i64]; decide)) (by rw [pow_i64]; decide)]
  have := Nat.and_le_right (n := p) (m := 127)
  exact wrap_i64 (by omega) (by omega)
end Go.S
