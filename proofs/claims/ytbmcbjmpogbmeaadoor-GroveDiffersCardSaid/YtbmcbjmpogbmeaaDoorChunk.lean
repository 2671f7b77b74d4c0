/- slices.Chunk and its iterator, over whatever yield. -/
import Derived.Test.YtbmcbjmpogbmeaaDoorSh
import Derived.Test.YtbmcbjmpogbmeaaDoorTy
import Derived.Test.YtbmcbjmpogbmeaaDoorLib5
set_option linter.unusedSimpArgs false
set_option linter.unusedVariables false
namespace Go.Proofs.YtbmcbjmpogbmeaaDoor
open Go Go.Eng

theorem chunk_s {s : Sl} {n : Int} {K : Value → World → Prop} {w : World} (hn : 1 ≤ n) (hK : ∀ g1 g2 w', Ext w w' → w.heap.size ≤ g1 → w.heap.size ≤ g2 → Var w' g1 [.slice s.a s.len s.cap] → Var w' g2 [.int .i64 n] → K (.func (.func 46) #[] #[.pointer (some (at_ g1 0)), .pointer (some (at_ g2 0))]) w') :
    callS Tryd.prog 30 #[.slice s.a s.len s.cap, .int .i64 n] [.one .any] K w := by
  refine f30_ok ?_
  unfold f30
  refine box_i fun g1 w1 e1 hg1 v1 => ?_
  refine box_i fun g2 w2 e2 hg2 v2 => ?_
  refine ld1_i (l := .int .i64) (o := 0) n v2 rfl ?_
  have hf : decide (n < 1) = false := by simp; omega
  refine cond_i (fun h => by rw [show decide (n < 1) = true from h] at hf; cases hf) (fun _ => ?_)
  exact hK g1 g2 w2 (e1.trans e2) hg1 (by have := e1.size; omega) (v1.ext e2) v2
theorem chunk1_s {yv : Value} {g1 g2 n : Nat} {s : Sl} {bs : List UInt8} (I : Nat → World → Prop) {K : World → Prop} {w : World} (hn : 1 ≤ n) (hn2 : n ≤ 65536) (hlen : bs.length ≤ 68719476736) (h0 : I 0 w)
    (hI : ∀ i w', I i w' → Var w' g1 [.slice s.a s.len s.cap] ∧ Var w' g2 [.int .i64 (n : Int)] ∧ Bts w' s bs ∧ I i w'.drew)
    (hy : ∀ i (u : Sl) w' (R : Bool → World → Prop), I i w' → n * i < bs.length → Bts w' u ((bs.drop (n * i)).take n) → (∀ k, u.inB k → s.inB k) → (∀ w'', I (i + 1) w'' → R true w'') → callY Tryd.prog (callSem yv #[.slice u.a u.len u.cap]) [.one .bool] R w')
    (hK : ∀ i w', I i w' → bs.length ≤ n * i → (i = 0 ∨ n * (i - 1) < bs.length) → K w') :
    callS Tryd.prog 46 #[yv, .pointer (some (at_ g1 0)), .pointer (some (at_ g2 0))] [] K w := by
  refine f46_ok ?_
  unfold f46
  refine loop_i (fun (x : Int) w' => ∃ i : Nat, x = ((n * i : Nat) : Int) ∧ I i w' ∧ (i = 0 ∨ n * (i - 1) < bs.length)) (fun x _ => bs.length + n - x.toNat) ⟨0, by simp, h0, .inl rfl⟩ ?_
  rintro x w1 again ⟨i, rfl, hi, hb⟩ hag
  obtain ⟨v1, v2, hs, hd⟩ := hI i w1 hi
  have hbl := Bts.len hs
  have hcap := hs.cap
  have hni : n * i ≤ bs.length + n := by
    rcases hb with rfl | hb
    · simp
    · have : n * i = n * (i - 1) + n ∨ i = 0 := by
        rcases Nat.eq_zero_or_pos i with h | h
        · exact .inr h
        · left; rw [← Nat.mul_succ]; congr 1; omega
      rcases this with h | h
      · omega
      · subst h; simp
  refine ld1_i (l := .slc) (o := 0) s v1 rfl ?_
  refine cond_i (fun hlt => ?_) (fun hge => ?_)
  · have hlt' : n * i < bs.length := by simp at hlt; omega
    obtain ⟨u1, u2, us, _⟩ := hI i _ hd
    refine ⟨fun x => x = w1.drew, rfl, ?_⟩
    refine ld1Q_i (l := .int .i64) (o := 0) (n : Int) (fun x hx => by rw [hx]; exact u2) rfl ?_
    refine ld1Q_i (l := .slc) (o := 0) s (fun x hx => by rw [hx]; exact u1) rfl ?_
    refine slLoQ_i (by omega) (by omega) ?_
    have hcl : (s.cut 1 ((n * i : Nat) : Int).toNat s.len).len = bs.length - n * i := by simp only [Sl.cut]; omega
    refine ld1_i (l := .slc) (o := 0) s u1 rfl ?_
    have hm : (if ((s.cut 1 ((n * i : Nat) : Int).toNat s.len).len : Int) < (n : Int) then ((s.cut 1 ((n * i : Nat) : Int).toNat s.len).len : Int) else (n : Int)) = ((min (bs.length - n * i) n : Nat) : Int) := by
      rw [hcl]; split <;> omega
    rw [hm]
    rw [wrap_i64 (x := ((n * i : Nat) : Int) + ((min (bs.length - n * i) n : Nat) : Int)) (by omega) (by omega)]
    refine sl3_i (by omega) (by omega) (by omega) (by omega) ?_
    have hc := Bts.cut3 us (l := n * i) (hi := n * i + min (bs.length - n * i) n) (by omega) (by omega)
    rw [show ((n * i : Nat) : Int).toNat = n * i by omega, show (((n * i : Nat) : Int) + ((min (bs.length - n * i) n : Nat) : Int)).toNat = n * i + min (bs.length - n * i) n by omega]
    have htake : (bs.drop (n * i)).take (n * i + min (bs.length - n * i) n - n * i) = (bs.drop (n * i)).take n := by
      rw [show n * i + min (bs.length - n * i) n - n * i = min (bs.length - n * i) n by omega]
      rcases Nat.le_total (bs.length - n * i) n with h | h
      · rw [Nat.min_eq_left h, List.take_of_length_le (by simp), List.take_of_length_le (by simp; omega)]
      · rw [Nat.min_eq_right h]
    rw [htake] at hc
    refine hy i _ _ _ hd hlt' hc (fun k hk => Sl.cut3_inB hk) fun w2 h2 => ?_
    refine cond_i (fun h => by simp at h) (fun _ => ?_)
    obtain ⟨x1, x2, _, _⟩ := hI (i + 1) w2 h2
    refine ld1_i (l := .int .i64) (o := 0) (n : Int) x2 rfl ?_
    have hs1 : n * (i + 1) = n * i + n := Nat.mul_succ n i
    refine hag _ w2 ⟨i + 1, ?_, h2, .inr (by simpa using hlt')⟩ ?_
    · rw [wrap_i64 (by omega) (by omega)]; omega
    · rw [wrap_i64 (by omega) (by omega)]; omega
  · exact hK i w1 hi (by simp at hge; omega) hb
end Go.Proofs.YtbmcbjmpogbmeaaDoor
