/- Layer 3 (long sums): the program's schedule. -/
import Derived.Test.YtjlmaamhnkhokaaDoorSum03b
set_option linter.unusedSimpArgs false
set_option linter.unusedVariables false
namespace Go.Proofs.YtjlmaamhnkhokaaDoor.L
open Go Go.Eng

theorem orByte64 {n c : Nat} (hn : n * 256 + c < 18446744073709551616) (hc : c < 256) : orI .u64 (shlI .u64 (n : Int) 8) (IntKind.wrap .u64 (c : Int)) = ((n * 256 + c : Nat) : Int) := by
  have h1 : IntKind.wrap .u64 (c : Int) = c := wrap_u64 (by omega) (by omega)
  have h2 : IntKind.wrap .u64 ((n * 256 : Nat) : Int) = ((n * 256 : Nat) : Int) := wrap_u64 (by omega) (by omega)
  have h3 : ((n : Int) * 2 ^ (8 : Int).toNat) = ((n * 256 : Nat) : Int) := by simp
  have h4 : orI .u64 ((n * 256 : Nat) : Int) (c : Int) = ((n * 256 ||| c : Nat) : Int) := or_u64 (Nat.lt_of_le_of_lt (Nat.le_add_right _ _) hn) (Nat.lt_of_le_of_lt (Nat.le_add_left _ _) hn)
  have h5 : n * 256 ||| c = n * 256 + c := or_shift n c 8 hc
  rw [shlI_lit _ _ _ (by decide), h1, h3, h2, h4, h5]
theorem set_mid {xs : List Int} {m : Nat} {x y : Int} {i : Nat} (hx : xs.length = i) : ((xs ++ x :: List.replicate m 0).map (Value.int .u64)).set i (.int .u64 y) = (xs ++ y :: List.replicate m 0).map (Value.int .u64) := by
  subst hx; simp

theorem schedule_s {s : Sl} {bs : List UInt8} {K : List Int → World → Prop} {w : World} (hs : Bts w s bs) (hl : bs.length = 128) (hK : ∀ w', Ext w w' → K (S.L.sh3.sched bs) w') :
    callS Tryd.prog 19 #[.slice s.a s.len s.cap] [.one (.arr .u64)] K w := by
  refine f19_ok ?_
  unfold f19
  have hbl := Bts.len hs
  have hcap := hs.cap
  refine alloc_i fun g w1 e1 hg v1 => ?_
  have own : ∀ {a b : World}, Ext w a → Fr (fun k => k = g) a b → Ext w b := fun h1 h2 => Fr.own1 h1 h2 hg
  refine loop_i (fun (x : Int) w' => ∃ i : Nat, i ≤ 16 ∧ x = i ∧ Ext w w' ∧ Var w' g (((List.range i).map (S.L.sh3.word bs) ++ List.replicate (80 - i) 0).map (Value.int .u64))) (fun x _ => 16 - x.toNat) ⟨0, by omega, rfl, e1, v1⟩ ?_
  rintro i' w2 again ⟨i, hi, rfl, e2, v2⟩ hag
  have hs2 := hs.ext e2
  refine cond_i (fun hlt => ?_) (fun hge => ?_)
  · have hi' : i < 16 := by simp at hlt; omega
    rw [wrap_i64 (x := 8 * (i : Int)) (by omega) (by omega), wrap_i64 (x := 8 * (i : Int) + 8) (by omega) (by omega)]
    refine sl2_i (by omega) (by omega) (by omega) ?_
    have hc := Bts.cut hs (l := (8 * (i : Int)).toNat) (hi := (8 * (i : Int) + 8).toNat) (by omega) (by omega)
    rw [show (8 * (i : Int)).toNat = 8 * i by omega, show (8 * (i : Int) + 8).toNat = 8 * i + 8 by omega, show 8 * i + 8 - 8 * i = 8 by omega] at hc
    rw [show (8 * (i : Int)).toNat = 8 * i by omega, show (8 * (i : Int) + 8).toNat = 8 * i + 8 by omega]
    have hsl : ((bs.drop (8 * i)).take 8).length = 8 := by simp; omega
    have hw : S.L.sh3.word bs i = (S.beN ((bs.drop (8 * i)).take 8) : Int) := rfl
    generalize (bs.drop (8 * i)).take 8 = sub at hsl hc hw
    generalize s.cut 1 (8 * i) (8 * i + 8) = t at hc
    have htl := Bts.len hc
    have hpl : ((List.range i).map (S.L.sh3.word bs)).length = i := by simp
    have hrep : List.replicate (80 - i) (0 : Int) = 0 :: List.replicate (79 - i) 0 := by rw [show 80 - i = (79 - i) + 1 by omega, List.replicate_succ]
    rw [hrep] at v2
    refine loop_i (fun (x : Int) w' => ∃ k : Nat, k ≤ 8 ∧ x = k ∧ Ext w w' ∧ Var w' g (((List.range i).map (S.L.sh3.word bs) ++ (S.beN (sub.take k) : Int) :: List.replicate (79 - i) 0).map (Value.int .u64))) (fun x _ => 8 - x.toNat) ⟨0, by omega, rfl, e2, by simpa [S.beN] using v2⟩ ?_
    rintro k' w3 again2 ⟨k, hk, rfl, e3, v3⟩ hag2
    have hbn := S.beN_lt (sub.take k)
    have hpow : 256 ^ (sub.take k).length ≤ 256 ^ k := Nat.pow_le_pow_right (by omega) (by simp; omega)
    refine cond_i (fun hlt2 => ?_) (fun hge2 => ?_)
    · have hk4 : k < 8 := by simp at hlt2; omega
      have hp3 : 256 ^ k ≤ 256 ^ 7 := Nat.pow_le_pow_right (by omega) (by omega)
      refine elem_i (x := ((sub[k]'(by omega)).toNat : Int)) (hc.ext e3) (by omega) (by omega) (by simpa using bytes_get (show k < sub.length by omega)) ?_
      have hb := (sub[k]'(by omega)).toNat_lt
      refine elA_i (l := .int .u64) (x := (S.beN (sub.take k) : Int)) v3 (by omega) (by omega) ?_ ?_
      · simp [hpl, Lf.enc]
      · refine stA_i v3 (by omega) (by omega) (by simp <;> omega) rfl fun w4 f4 v4 => ?_
        refine hag2 _ w4 ⟨k + 1, by omega, ?_, own e3 f4, ?_⟩ ?_
        · rw [wrap_i64 (by omega) (by omega)]; omega
        · rw [orByte64 (by omega) (by omega), ← beN_take_succ (show k < sub.length by omega)] at v4
          rw [show 0 + ((i : Int)).toNat = i by omega, set_mid hpl] at v4
          exact v4
        · rw [wrap_i64 (by omega) (by omega)]; omega
    · have hk4 : k = 8 := by simp at hge2; omega
      subst hk4
      rw [List.take_of_length_le (by omega), ← hw] at v3
      refine hag _ w3 ⟨i + 1, by omega, ?_, e3, ?_⟩ ?_
      · rw [wrap_i64 (by omega) (by omega)]; omega
      · rw [S.L.range_succ_map, show 80 - (i + 1) = 79 - i by omega, List.append_assoc]; exact v3
      · rw [wrap_i64 (by omega) (by omega)]; omega
  · have hi16 : i = 16 := by simp at hge; omega
    subst hi16
    clear hag hge
    refine loop_i (fun (x : Int) w' => ∃ j : Nat, j ≤ 64 ∧ x = (16 : Int) + j ∧ Ext w w' ∧ Var w' g ((S.L.sh3.ext j (S.L.sh3.words bs) ++ List.replicate (64 - j) 0).map (Value.int .u64))) (fun x _ => 80 - x.toNat) ⟨0, by omega, rfl, e2, v2⟩ ?_
    rintro i' w3 again2 ⟨j, hj, rfl, e3, v3⟩ hag
    have hwl : (S.L.sh3.ext j (S.L.sh3.words bs)).length = 16 + j := by rw [S.Sha.ext_len, S.Sha.words_len]
    refine cond_i (fun hlt => ?_) (fun hge => ?_)
    · have hj' : j < 64 := by simp at hlt; omega
      have hnx : S.L.sh3.ext (j + 1) (S.L.sh3.words bs) = S.L.sh3.ext j (S.L.sh3.words bs) ++ [S.L.sh3.next (S.L.sh3.ext j (S.L.sh3.words bs))] := S.Sha.ext_snoc _ _ _
      generalize S.L.sh3.ext j (S.L.sh3.words bs) = ws at v3 hwl hnx
      have hrep : List.replicate (64 - j) (0 : Int) = 0 :: List.replicate (63 - j) 0 := by rw [show 64 - j = (63 - j) + 1 by omega, List.replicate_succ]
      rw [hrep] at v3
      have el : ∀ d : Nat, d ≤ 16 → 1 ≤ d → ((ws ++ 0 :: List.replicate (63 - j) 0).map (Value.int .u64))[0 + ((16 : Int) + j - d).toNat]? = some (Lf.enc (.int .u64) (ws.getD (ws.length - d) 0)) := fun d h1 h2 => by
        rw [show 0 + ((16 : Int) + j - d).toNat = ws.length - d by omega, List.map_append, List.getElem?_append_left (by simp; omega)]; exact wget (by omega)
      rw [wrap_i64 (x := (16 : Int) + j - 15) (by omega) (by omega), wrap_i64 (x := (16 : Int) + j - 2) (by omega) (by omega), wrap_i64 (x := (16 : Int) + j - 16) (by omega) (by omega), wrap_i64 (x := (16 : Int) + j - 7) (by omega) (by omega)]
      refine ⟨fun x => Ext w3 x, Ext.drew _, ?_⟩
      refine elAQ_i (l := .int .u64) (fun x hx => v3.ext hx) (by omega) (by omega) (el 15 (by omega) (by omega)) ?_
      refine elAQ_i (l := .int .u64) (fun x hx => v3.ext hx) (by omega) (by omega) (el 2 (by omega) (by omega)) ?_
      have E3 := (Ext.drew w3).trans (Ext.drew _)
      refine ⟨fun x => Ext w3 x, E3, ?_⟩
      refine elAQ_i (l := .int .u64) (fun x hx => v3.ext hx) (by omega) (by omega) (el 16 (by omega) (by omega)) ?_
      refine elAQ_i (l := .int .u64) (fun x hx => v3.ext hx) (by omega) (by omega) (el 7 (by omega) (by omega)) ?_
      refine turn_s (n := 1) (by omega) (by omega) ?_
      refine more_i E3 ?_
      refine turn_s (n := 8) (by omega) (by omega) ?_
      refine more_i E3 ?_
      refine turn_s (n := 19) (by omega) (by omega) ?_
      refine more_i E3 ?_
      refine turn_s (n := 61) (by omega) (by omega) ?_
      refine more_i E3 ?_
      refine ixAQ_i (by omega) (by omega) ?_
      rw [Nat.mul_one, at_add]
      refine st1_i (v3.ext E3) (by simp <;> omega) rfl fun w4 f4 v4 => ?_
      refine hag _ w4 ⟨j + 1, by omega, ?_, own (e3.trans E3) f4, ?_⟩ ?_
      · rw [wrap_i64 (by omega) (by omega)]; omega
      · rw [show 0 + ((16 : Int) + j).toNat = 16 + j by omega, set_mid hwl] at v4
        rw [hnx, show 64 - (j + 1) = 63 - j by omega, List.append_assoc]; exact v4
      · rw [wrap_i64 (by omega) (by omega)]; omega
    · have hj' : j = 64 := by simp at hge; omega
      subst hj'
      have hwl2 : (S.L.sh3.ext 64 (S.L.sh3.words bs)).length = 80 := hwl
      rw [show List.replicate (64 - 64) (0 : Int) = [] by rfl, List.append_nil] at v3
      refine ldArr_i v3 hwl2 ?_
      refine stArr_i v3 hwl2 (by simpa using hwl2) fun w4 f4 v4 => ?_
      exact resV_i v4 (by simpa using hwl2) ⟨_, rfl, hK w4 (own e3 f4)⟩
end Go.Proofs.YtjlmaamhnkhokaaDoor.L
