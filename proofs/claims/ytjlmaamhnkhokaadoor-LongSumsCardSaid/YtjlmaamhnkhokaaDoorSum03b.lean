/- Layer 3 (long sums): the words of a block, spread: the document's and the program's. -/
import Derived.Test.YtjlmaamhnkhokaaDoorSum03a
set_option linter.unusedSimpArgs false
set_option linter.unusedVariables false
namespace Go.S.L
theorem word2_lt (bs : List UInt8) (i : Nat) : sh3.word bs i < 18446744073709551616 := by
  have := beN_lt ((bs.drop (8 * i)).take 8)
  have h2 : 256 ^ ((bs.drop (8 * i)).take 8).length ≤ 256 ^ 8 := Nat.pow_le_pow_right (by omega) (by simp; omega)
  show ((beN ((bs.drop (8 * i)).take 8) : Nat) : Int) < 18446744073709551616
  omega
theorem range_succ_map {α : Type} (f : Nat → α) (i : Nat) : (List.range (i + 1)).map f = (List.range i).map f ++ [f i] := by rw [List.range_succ, List.map_append]; rfl
end Go.S.L
namespace Go.Proofs.YtjlmaamhnkhokaaDoor.L
open Go Go.Eng

theorem refWords_s {s : Sl} {bs : List UInt8} {K : Sl → World → Prop} {w : World} (hs : Bts w s bs) (hl : bs.length = 128) (hK : ∀ v w', Ext w w' → OwnW w' w.heap.size v (S.L.sh3.sched bs) → K v w') :
    callS Tryd.prog 21 #[.slice s.a s.len s.cap] [.one .slc] K w := by
  refine f21_ok ?_
  unfold f21
  have hbl := Bts.len hs
  refine loop_i (fun (x : Sl × Int) w' => ∃ i : Nat, i ≤ 16 ∧ x.2 = i ∧ Ext w w' ∧ OwnW w' w.heap.size x.1 ((List.range i).map (S.L.sh3.word bs))) (fun x _ => 16 - x.2.toNat) ⟨0, by omega, rfl, Fr.refl _ _, Own.nilSl _ _ _⟩ ?_
  rintro ⟨v, i'⟩ w1 again ⟨i, hi, hxi, e1, o1⟩ hag
  dsimp only at hxi o1 ⊢
  subst hxi
  have hs1 := hs.ext e1
  refine cond_i (fun hlt => ?_) (fun hge => ?_)
  · have hi' : i < 16 := by simp at hlt; omega
    have hsl : ((bs.drop (8 * i)).take 8).length = 8 := by simp; omega
    have hat : ∀ (k : Nat), k < 8 → bs[8 * i + k]? = ((bs.drop (8 * i)).take 8)[k]? := by intro k hk; simp [hk]
    have hw : S.L.sh3.word bs i = (S.beN ((bs.drop (8 * i)).take 8) : Int) := rfl
    generalize (bs.drop (8 * i)).take 8 = sub at hsl hat hw
    refine loop_i (fun (x : Int × Int) w' => w' = w1 ∧ ∃ k : Nat, k ≤ 8 ∧ x.2 = k ∧ x.1 = (S.beN (sub.take k) : Int)) (fun x _ => 8 - x.2.toNat) ⟨rfl, 0, by omega, rfl, rfl⟩ ?_
    rintro ⟨n, k'⟩ w2 again2 ⟨rfl, k, hk, hxk, hxn⟩ hag2
    dsimp only at hxk hxn ⊢
    subst hxk
    subst hxn
    have hbn := S.beN_lt (sub.take k)
    have hpow : 256 ^ (sub.take k).length ≤ 256 ^ k := Nat.pow_le_pow_right (by omega) (by simp; omega)
    refine cond_i (fun hlt2 => ?_) (fun hge2 => ?_)
    · have hk4 : k < 8 := by simp at hlt2; omega
      have hp3 : 256 ^ k ≤ 256 ^ 7 := Nat.pow_le_pow_right (by omega) (by omega)
      rw [wrap_i64 (x := 8 * (i : Int)) (by omega) (by omega), wrap_i64 (x := 8 * (i : Int) + k) (by omega) (by omega)]
      refine elem_i (x := ((sub[k]'(by omega)).toNat : Int)) hs1 (by omega) (by omega) (bytes_get? (by rw [show (8 * (i : Int) + (k : Int)).toNat = 8 * i + k by omega, hat k hk4, List.getElem?_eq_getElem])) ?_
      have hb := (sub[k]'(by omega)).toNat_lt
      refine hag2 _ w2 ⟨rfl, k + 1, by omega, ?_, ?_⟩ ?_
      · simp only [wrap_i64 (x := (k : Int) + 1) (by omega) (by omega)]; omega
      · simp only [beN_take_succ (show k < sub.length by omega)]
        rw [wrap_u64 (x := (S.beN (sub.take k) : Int) * 256) (by omega) (by omega), wrap_u64 (x := ((sub[k]'(by omega)).toNat : Int)) (by omega) (by omega), wrap_u64 (by omega) (by omega)]
        omega
      · simp only [wrap_i64 (x := (k : Int) + 1) (by omega) (by omega)]; omega
    · have hk4 : k = 8 := by simp at hge2; omega
      subst hk4
      rw [List.take_of_length_le (by omega), ← hw]
      refine appendW_i _ o1 (by simp; omega) e1.size fun v3 w3 f3 o3 => ?_
      refine hag _ w3 ⟨i + 1, by omega, ?_, Ext.own e1 f3 fun i hi => (o1.inB hi).1, ?_⟩ ?_
      · simp only [wrap_i64 (x := (i : Int) + 1) (by omega) (by omega)]; omega
      · rw [S.L.range_succ_map]; exact o3
      · simp only [wrap_i64 (x := (i : Int) + 1) (by omega) (by omega)]; omega
  · have hi16 : i = 16 := by simp at hge; omega
    subst hi16
    clear hag hge
    refine loop_i (fun (x : Sl × Int) w' => ∃ j : Nat, j ≤ 64 ∧ x.2 = (16 : Int) + j ∧ Ext w w' ∧ OwnW w' w.heap.size x.1 (S.L.sh3.ext j (S.L.sh3.words bs))) (fun x _ => 80 - x.2.toNat) ⟨0, by omega, rfl, e1, o1⟩ ?_
    rintro ⟨v2, i'⟩ w2 again2 ⟨j, hj, hxi, e2, o2⟩ hag
    dsimp only at hxi o2 ⊢
    subst hxi
    have hwl : (S.L.sh3.ext j (S.L.sh3.words bs)).length = 16 + j := by rw [S.Sha.ext_len, S.Sha.words_len]
    refine cond_i (fun hlt => ?_) (fun hge => ?_)
    · have hj' : j < 64 := by simp at hlt; omega
      have hnx : S.L.sh3.ext (j + 1) (S.L.sh3.words bs) = S.L.sh3.ext j (S.L.sh3.words bs) ++ [S.L.sh3.next (S.L.sh3.ext j (S.L.sh3.words bs))] := S.Sha.ext_snoc _ _ _
      generalize S.L.sh3.ext j (S.L.sh3.words bs) = ws at o2 hwl hnx
      have hvl := OwnW.len o2
      obtain ⟨a, ha⟩ := o2.rd.some (by omega)
      have el : ∀ d : Nat, d ≤ 16 → 1 ≤ d → (ws.map (Value.int .u64))[((16 : Int) + j - d).toNat]? = some (Lf.enc (.int .u64) (ws.getD (ws.length - d) 0)) := fun d h1 h2 => by
        rw [show ((16 : Int) + j - d).toNat = ws.length - d by omega]; exact wget (by omega)
      rw [wrap_i64 (x := (16 : Int) + j - 15) (by omega) (by omega), wrap_i64 (x := (16 : Int) + j - 2) (by omega) (by omega), wrap_i64 (x := (16 : Int) + j - 16) (by omega) (by omega), wrap_i64 (x := (16 : Int) + j - 7) (by omega) (by omega)]
      refine ⟨fun x => Ext w2 x, Ext.drew _, ?_⟩
      refine elemQ_i (l := .int .u64) ha (fun x hx => (o2.ext hx).rd) (by omega) (by omega) (el 15 (by omega) (by omega)) ?_
      refine elemQ_i (l := .int .u64) ha (fun x hx => (o2.ext hx).rd) (by omega) (by omega) (el 15 (by omega) (by omega)) ?_
      refine elemQ_i (l := .int .u64) ha (fun x hx => (o2.ext hx).rd) (by omega) (by omega) (el 15 (by omega) (by omega)) ?_
      refine right_s (n := 1) (by omega) (by omega) fun w3 e3 => ?_
      have E3 := (Ext.drew w2).trans e3
      refine more_i E3 ?_
      refine right_s (n := 8) (by omega) (by omega) fun w4 e4 => ?_
      have E4 := E3.trans e4
      refine more_i E4 ?_
      refine ⟨fun x => Ext w2 x, E4.trans (Ext.drew _), ?_⟩
      refine elemQ_i (l := .int .u64) ha (fun x hx => (o2.ext hx).rd) (by omega) (by omega) (el 2 (by omega) (by omega)) ?_
      refine elemQ_i (l := .int .u64) ha (fun x hx => (o2.ext hx).rd) (by omega) (by omega) (el 2 (by omega) (by omega)) ?_
      refine elemQ_i (l := .int .u64) ha (fun x hx => (o2.ext hx).rd) (by omega) (by omega) (el 2 (by omega) (by omega)) ?_
      refine right_s (n := 19) (by omega) (by omega) fun w5 e5 => ?_
      have E5 := (E4.trans (Ext.drew _)).trans e5
      refine more_i E5 ?_
      refine right_s (n := 61) (by omega) (by omega) fun w6 e6 => ?_
      have E6 := E5.trans e6
      refine more_i E6 ?_
      refine ⟨fun x => Ext w2 x, E6.trans (Ext.drew _), ?_⟩
      refine elemQ_i (l := .int .u64) ha (fun x hx => (o2.ext hx).rd) (by omega) (by omega) (el 16 (by omega) (by omega)) ?_
      refine elemQ_i (l := .int .u64) ha (fun x hx => (o2.ext hx).rd) (by omega) (by omega) (el 7 (by omega) (by omega)) ?_
      have E7 := E6.trans (Ext.drew w6)
      have o7 := o2.ext E7
      refine appendW_i _ o7 (by omega) (e2.trans E7).size fun v8 w8 f8 o8 => ?_
      refine hag _ w8 ⟨j + 1, by omega, ?_, Ext.own (e2.trans E7) f8 fun i hi => (o7.inB hi).1, ?_⟩ ?_
      · simp only [wrap_i64 (x := (16 : Int) + j + 1) (by omega) (by omega)]; omega
      · rw [hnx]; exact o8
      · simp only [wrap_i64 (x := (16 : Int) + j + 1) (by omega) (by omega)]; omega
    · have hj' : j = 64 := by simp at hge; omega
      subst hj'
      exact hK v2 w2 e2 o2
end Go.Proofs.YtjlmaamhnkhokaaDoor.L
