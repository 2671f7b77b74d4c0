/- Layers 2 and 3 (sums): a sum as a plain function over lists, whatever the word's kind. -/
import Derived.Test.YtbmcbjmpogbmeaaDoorPure01b
import Derived.Test.YtbmcbjmpogbmeaaDoorLib4
set_option linter.unusedSimpArgs false
set_option linter.unusedVariables false
namespace Go.S
open Go Go.Eng

/-- A sum of this make: the kind of its words, their bytes, the rounds, the turns, the constants, the state at first, how many bytes tell the length. -/
structure Sha where
  k : IntKind
  b : Nat
  r : Nat
  a1 : Int
  a2 : Int
  a3 : Int
  b1 : Int
  b2 : Int
  b3 : Int
  c1 : Int
  c2 : Int
  c3 : Int
  d1 : Int
  d2 : Int
  d3 : Int
  K : List Int
  H : List Int
  lb : Nat
namespace Sha
variable (S : Sha)
def rot (x n : Int) : Int := orI S.k (shrI S.k x n) (shlI S.k x (S.k.bits - n))
def add (x y : Int) : Int := S.k.wrap (x + y)
def s0 (x : Int) : Int := xorI S.k (xorI S.k (S.rot x S.a1) (S.rot x S.a2)) (shrI S.k x S.a3)
def s1 (x : Int) : Int := xorI S.k (xorI S.k (S.rot x S.b1) (S.rot x S.b2)) (shrI S.k x S.b3)
def S1 (x : Int) : Int := xorI S.k (xorI S.k (S.rot x S.c1) (S.rot x S.c2)) (S.rot x S.c3)
def S0 (x : Int) : Int := xorI S.k (xorI S.k (S.rot x S.d1) (S.rot x S.d2)) (S.rot x S.d3)
def ch (e f g : Int) : Int := xorI S.k (andI S.k e f) (andI S.k (xorI S.k (IntKind.max S.k) e) g)
def maj (a b c : Int) : Int := xorI S.k (xorI S.k (andI S.k a b) (andI S.k a c)) (andI S.k b c)
/-- The word that the n-th one is, where w has n words. -/
def next (w : List Int) : Int := S.add (S.add (S.add (w.getD (w.length - 16) 0) (S.s0 (w.getD (w.length - 15) 0))) (w.getD (w.length - 7) 0)) (S.s1 (w.getD (w.length - 2) 0))
def ext : Nat → List Int → List Int
  | 0, w => w
  | n + 1, w => ext n (w ++ [S.next w])
def word (bs : List UInt8) (i : Nat) : Int := (beN ((bs.drop (S.b * i)).take S.b) : Int)
def words (bs : List UInt8) : List Int := (List.range 16).map (S.word bs)
def sched (bs : List UInt8) : List Int := S.ext (S.r - 16) (S.words bs)
structure St where
  a : Int
  b : Int
  c : Int
  d : Int
  e : Int
  f : Int
  g : Int
  h : Int
def St.list (s : St) : List Int := [s.a, s.b, s.c, s.d, s.e, s.f, s.g, s.h]
def tt (s : St) (k w : Int) : Int := S.add (S.add (S.add (S.add s.h (S.S1 s.e)) (S.ch s.e s.f s.g)) k) w
def uu (s : St) : Int := S.add (S.S0 s.a) (S.maj s.a s.b s.c)
def step (s : St) (k w : Int) : St := ⟨S.add (S.tt s k w) (S.uu s), s.a, s.b, s.c, S.add s.d (S.tt s k w), s.e, s.f, s.g⟩
/-- n rounds over the words w. -/
def rounds (s : St) (w : List Int) : Nat → St
  | 0 => s
  | n + 1 => S.step (rounds s w n) (S.K.getD n 0) (w.getD n 0)
def plus (s t : St) : St := ⟨S.add s.a t.a, S.add s.b t.b, S.add s.c t.c, S.add s.d t.d, S.add s.e t.e, S.add s.f t.f, S.add s.g t.g, S.add s.h t.h⟩
/-- The state behind one block. -/
def comp (s : St) (bs : List UInt8) : St := S.plus s (S.rounds s (S.sched bs) S.r)
def blk : Nat := 16 * S.b
/-- The state behind so many blocks. -/
def fold (s : St) (bs : List UInt8) : Nat → St
  | 0 => s
  | n + 1 => S.comp (fold s bs n) ((bs.drop (S.blk * n)).take S.blk)
def first : St := ⟨S.H.getD 0 0, S.H.getD 1 0, S.H.getD 2 0, S.H.getD 3 0, S.H.getD 4 0, S.H.getD 5 0, S.H.getD 6 0, S.H.getD 7 0⟩
/-- How many noughts stand behind the 128. -/
def gap (n : Nat) : Nat := (S.blk + (S.blk - S.lb) - (n + 1) % S.blk) % S.blk
def padded (bs : List UInt8) : List UInt8 := bs ++ [128] ++ List.replicate (S.gap bs.length) 0 ++ be S.lb (8 * bs.length)
def out (s : St) : List UInt8 := s.list.flatMap fun x => be S.b x.toNat
/-- The sum of a text. -/
def sum (bs : List UInt8) : List UInt8 := S.out (S.fold S.first (S.padded bs) ((S.padded bs).length / S.blk))

theorem ext_len : ∀ (n : Nat) (w : List Int), (S.ext n w).length = w.length + n
  | 0, w => rfl
  | n + 1, w => by rw [ext, ext_len n]; simp; omega
theorem ext_snoc : ∀ (n : Nat) (w : List Int), S.ext (n + 1) w = S.ext n w ++ [S.next (S.ext n w)]
  | 0, w => rfl
  | n + 1, w => by
    rw [ext, ext_snoc n, ext]
theorem words_len (bs : List UInt8) : (S.words bs).length = 16 := by simp [words]
/-- Rounds of a list look only at its blocks. -/
theorem fold_append (s : St) (bs cs : List UInt8) : ∀ n, S.blk * n ≤ bs.length → S.fold s (bs ++ cs) n = S.fold s bs n
  | 0, _ => rfl
  | n + 1, h => by
    have h' : S.blk * n + S.blk ≤ bs.length := by rw [← Nat.mul_succ]; exact h
    rw [fold, fold, fold_append s bs cs n (by omega)]
    congr 1
    rw [List.drop_append_of_le_length (by omega), List.take_append_of_le_length (by simp; omega)]
theorem fold_add (s : St) (bs : List UInt8) (m : Nat) : ∀ n, S.fold s bs (m + n) = S.fold (S.fold s bs m) (bs.drop (S.blk * m)) n
  | 0 => rfl
  | n + 1 => by
    rw [← Nat.add_assoc, fold, fold, fold_add s bs m n, List.drop_drop, Nat.mul_add]
end Sha
theorem orI_comm (k : IntKind) (x y : Int) : orI k x y = orI k y x := by unfold orI; rw [BitVec.or_comm]
end Go.S
