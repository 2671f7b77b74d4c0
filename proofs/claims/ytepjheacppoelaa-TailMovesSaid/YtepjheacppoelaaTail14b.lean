/- Layer 14 (tail): the document's bytes; Encode, Parse. -/
import Derived.Test.YtepjheacppoelaaTail14a
set_option linter.unusedSimpArgs false
set_option linter.unusedVariables false
namespace Go.S
open Go Go.Eng
theorem get8 {bs : List UInt8} {off : Int} (h0 : 0 ≤ off) (h : off.toNat + 8 ≤ bs.length) : get bs off 8 = if beN ((bs.drop off.toNat).take 8) ≥ 9223372036854775808 then (0, 11) else ((beN ((bs.drop off.toNat).take 8) : Int), 0) := by
  unfold get
  rw [if_neg (by omega), if_neg (by rw [within_iff.2 (by omega)]; simp)]; rfl
theorem get4 {bs : List UInt8} (h : bs.length = 64) : (get bs 4 4).1 = (beN ((bs.drop 4).take 4) : Int) := by
  unfold get
  rw [if_neg (by omega), if_neg (by rw [within_iff.2 (by omega)]; simp)]
  have := beN_small (bs := (bs.drop 4).take 4) (by simp; omega)
  rw [show (4 : Int).toNat = 4 by rfl, if_neg (by omega)]
def tVs (bs : List UInt8) : List Int := [(beN ((bs.drop 8).take 8) : Int), (beN ((bs.drop 16).take 8) : Int), (beN ((bs.drop 24).take 8) : Int)]
theorem tVs_get (bs : List UInt8) {j : Nat} (h : j < 3) : (tVs bs).getD j 0 = (beN ((bs.drop (8 + 8 * j)).take 8) : Int) := by
  have : j = 0 ∨ j = 1 ∨ j = 2 := by omega
  rcases this with rfl | rfl | rfl <;> rfl
theorem tAt_big {bs : List UInt8} {j : Nat} (hj : j < 3) (h : beN ((bs.drop (8 + 8 * j)).take 8) ≥ 9223372036854775808) : (tAt bs).right = false := by
  rw [Bool.eq_false_iff]
  intro hr
  have := tright_iff.1 hr
  simp only [tAt] at this
  have h3 : j = 0 ∨ j = 1 ∨ j = 2 := by omega
  rcases h3 with rfl | rfl | rfl
  · rw [show 8 + 8 * 0 = 8 by rfl] at h; omega
  · rw [show 8 + 8 * 1 = 16 by rfl] at h; omega
  · rw [show 8 + 8 * 2 = 24 by rfl] at h; omega
end Go.S
namespace Go.Proofs.Ytepjheacppoelaa
open Go Go.Eng
theorem lawBytes_s {t : S.Tl} {K : Sl → World → Prop} {w : World} (ht : putT t) (hK : ∀ v w', Ext w w' → OwnB w' w.heap.size v (S.tB t) → K v w') :
    callS Try.prog 13 #[.agg #[.int .i64 t.d, .int .i64 t.o, .int .i64 t.s]] [.one .slc] K w := by
  refine f13_ok ?_
  unfold f13
  refine box_i fun g w1 e1 hg v1 => ?_
  have v1 : Var w1 g (tls t) := v1
  refine bytesConst_i S.thead (by kernel_rfl) rfl (by omega) fun x w2 e2 o2 => ?_
  have v2 := v1.ext e2
  refine ld1_i (l := .int .i64) t.d v2 rfl ?_
  refine ld1_i (l := .int .i64) t.o v2 rfl ?_
  refine ld1_i (l := .int .i64) t.s v2 rfl ?_
  obtain ⟨h1, h4, h2, h5, h3, h6⟩ := ht
  have hns : ∀ j, j < 3 → ∃ n : Nat, n < 9223372036854775808 ∧ ([t.d, t.o, t.s] : List Int)[j]? = some (n : Int) ∧ ([t.d, t.o, t.s] : List Int).take (j + 1) = ([t.d, t.o, t.s] : List Int).take j ++ [(n : Int)] := fun j hj => by
    have : j = 0 ∨ j = 1 ∨ j = 2 := by omega
    rcases this with rfl | rfl | rfl
    · exact ⟨t.d.toNat, by omega, by rw [Int.toNat_of_nonneg h1]; rfl, by rw [Int.toNat_of_nonneg h1]; rfl⟩
    · exact ⟨t.o.toNat, by omega, by rw [Int.toNat_of_nonneg h2]; rfl, by rw [Int.toNat_of_nonneg h2]; rfl⟩
    · exact ⟨t.s.toNat, by omega, by rw [Int.toNat_of_nonneg h3]; rfl, by rw [Int.toNat_of_nonneg h3]; rfl⟩
  refine loop_i (fun (s : Sl × Int) w' => ∃ j : Nat, j ≤ 3 ∧ s.2 = j ∧ Ext w1 w' ∧ OwnB w' w1.heap.size s.1 (S.thead ++ (([t.d, t.o, t.s] : List Int).take j).flatMap fun (x : Int) => S.be 8 x.toNat)) (fun s _ => 3 - s.2.toNat) ⟨0, by omega, rfl, e2, by rw [List.take_zero, List.flatMap_nil, List.append_nil]; exact o2⟩ ?_
  rintro ⟨s, i⟩ w4 again ⟨j, hj, hi, e4, o4⟩ hag
  dsimp only at hi o4 ⊢
  subst hi
  have hll : (S.thead ++ (([t.d, t.o, t.s] : List Int).take j).flatMap fun (x : Int) => S.be 8 x.toNat).length ≤ 32 := by
    have : j = 0 ∨ j = 1 ∨ j = 2 ∨ j = 3 := by omega
    rcases this with rfl | rfl | rfl | rfl <;> simp [S.thead, S.be_length]
  refine cond_i (fun hlt => ?_) (fun hge => ?_)
  · have hj3 : j < 3 := by simp at hlt; omega
    obtain ⟨n, hn, hx, ht1⟩ := hns j hj3
    refine ixL_i (cs := tls t) (l := .int .i64) (x := (n : Int)) (by omega) (by omega) ?_ ?_
    · rw [Int.toNat_natCast]
      have : tls t = ([t.d, t.o, t.s] : List Int).map (Value.int .i64) := rfl
      rw [this, List.getElem?_map, hx]; rfl
    · refine number_s (size := 8) (by omega) hn fun y w5 e5 o5 => ?_
      have o45 := o4.ext e5
      refine appendB_i o45 o5.rd (by rw [S.be_length]; omega) (by have := (e4.trans e5).size; omega) fun v w6 f6 o6 _ => ?_
      refine hag _ w6 ⟨j + 1, by omega, ?_, Ext.own (e4.trans e5) f6 fun i hi => (o45.inB hi).1, ?_⟩ ?_
      · simp only [wrap_i64 (x := (j : Int) + 1) (by omega) (by omega)]; omega

      · rw [ht1, List.flatMap_append, ← List.append_assoc, List.flatMap_cons, List.flatMap_nil, List.append_nil, Int.toNat_natCast]
        exact o6
      · simp only [wrap_i64 (x := (j : Int) + 1) (by omega) (by omega)]; omega
  · have hj3 : j = 3 := by simp at hge; omega
    subst hj3
    refine appendZB_i o4 (by omega) (by omega) (by have := e4.size; omega) fun v w5 f5 o5 _ => ?_
    have e5 : Ext w1 w5 := Ext.own e4 f5 fun i hi => (o4.inB hi).1
    have hfin : S.thead ++ (([t.d, t.o, t.s] : List Int).take 3).flatMap (fun (x : Int) => S.be 8 x.toNat) ++ List.replicate (32 : Int).toNat 0 = S.tB t := by
      simp only [List.take_succ_cons, List.take_zero, List.flatMap_cons, List.flatMap_nil, List.append_nil, S.tB]
      simp only [← List.append_assoc]; rfl
    rw [hfin] at o5
    exact hK v w5 (e1.trans e5) (o5.base (by have := e1.size; omega))

theorem get12_s {s : Sl} {bs : List UInt8} {off : Nat} {K : Int → World → Prop} {w : World} (hs : Bts w s bs) (hl : off + 8 ≤ bs.length) (hlen : bs.length ≤ 1000)
    (hK : ∀ r : Int, (r = (S.beN ((bs.drop off).take 8) : Int) ∨ r = -1 ∧ 4611686018427387904 ≤ S.beN ((bs.drop off).take 8)) → K r w) :
    callS Try.prog 11 #[.slice s.a s.len s.cap, .int .i64 (off : Int), .int .i64 8] [.one (.int .i64)] K w := by
  refine f11_ok ?_
  unfold f11
  have hbl := Bts.len hs
  have hl8 : ((bs.drop off).take 8).length = 8 := by simp; omega
  have hget : ∀ k, k < 8 → ((bs.drop off).take 8)[k]? = bs[off + k]? := fun k hk => by
    rw [List.getElem?_take, if_pos hk, List.getElem?_drop]
  refine loop_i (fun (x : Int × Int) w' => w' = w ∧ ∃ k : Nat, k ≤ 8 ∧ x.2 = ((off + k : Nat) : Int) ∧ x.1 = (S.beN (((bs.drop off).take 8).take k) : Int) ∧ S.beN (((bs.drop off).take 8).take k) ≤ 4611686018427388159) (fun x _ => off + 8 - x.2.toNat) ⟨rfl, 0, by omega, rfl, rfl, by simp [S.beN]⟩ ?_
  rintro ⟨n', i'⟩ w' again ⟨rfl, k, hk, hi, hn, hb⟩ hag
  dsimp only at hi hn ⊢
  subst hi
  subst hn
  rw [wrap_i64 (x := (off : Int) + 8) (by omega) (by omega)]
  refine cond_i (fun hlt => ?_) (fun hge => ?_)
  · have hk8 : k < 8 := by simp at hlt; omega
    have hsucc : ((bs.drop off).take 8).take (k + 1) = ((bs.drop off).take 8).take k ++ [((bs.drop off).take 8)[k]'(by omega)] := List.take_succ_eq_append_getElem (by omega)
    refine cond_i (fun hbig => ?_) (fun hsm => ?_)
    · have hbig' : S.beN (((bs.drop off).take 8).take k) > 18014398509481984 := by simp at hbig; omega
      refine hK (-1) (.inr ⟨rfl, ?_⟩)
      have h1 := S.beN_append (((bs.drop off).take 8).take k) (((bs.drop off).take 8).drop k)
      rw [List.take_append_drop] at h1
      have h2 : 256 ^ 1 ≤ 256 ^ (((bs.drop off).take 8).drop k).length := Nat.pow_le_pow_right (by omega) (by rw [List.length_drop]; omega)
      have h3 := Nat.mul_le_mul (Nat.le_of_lt hbig') h2
      omega
    · have hsm' : S.beN (((bs.drop off).take 8).take k) ≤ 18014398509481984 := by simp at hsm; omega
      have hx := hget k hk8
      rw [List.getElem?_eq_getElem (by omega)] at hx
      have hbv := (((bs.drop off).take 8)[k]'(by omega)).toNat_lt
      refine elem_i (l := .int .u8) (x := ((((bs.drop off).take 8)[k]'(by omega)).toNat : Int)) hs (by omega) (by omega) ?_ ?_
      · rw [Int.toNat_natCast, List.getElem?_map, ← hx]; rfl
      · have hs1 := S.beN_snoc (((bs.drop off).take 8).take k) (((bs.drop off).take 8)[k]'(by omega))
        rw [← hsucc] at hs1
        generalize ((bs.drop off).take 8)[k]'(by omega) = b at hbv hs1
        rw [wrap_i64 (x := (S.beN (((bs.drop off).take 8).take k) : Int) * 256) (by omega) (by omega), wrap_i64 (x := (b.toNat : Int)) (by omega) (by omega), wrap_i64 (x := (S.beN (((bs.drop off).take 8).take k) : Int) * 256 + (b.toNat : Int)) (by omega) (by omega)]
        refine hag _ w' ⟨rfl, k + 1, by omega, ?_, ?_, ?_⟩ ?_
        · simp only [wrap_i64 (x := ((off + k : Nat) : Int) + 1) (by omega) (by omega)]; omega
        · show _ = ((S.beN _ : Nat) : Int); rw [hs1]; omega
        · rw [hs1]; omega
        · simp only [wrap_i64 (x := ((off + k : Nat) : Int) + 1) (by omega) (by omega)]; omega
  · have hk8 : k = 8 := by simp at hge; omega
    subst hk8
    exact hK _ (.inl (by rw [List.take_of_length_le (Nat.le_of_eq hl8)]))

theorem tencode_s {t : S.Tl} {K : Sl → Int → World → Prop} {w : World} (h1 : t.right = false → ∀ w', Ext w w' → K Sl.nil 12 w') (h2 : t.right = true → ∀ v w', Ext w w' → OwnB w' w.heap.size v (S.tB t) → K v 0 w') :
    callS Try.prog 22 #[.agg #[.int .i64 t.d, .int .i64 t.o, .int .i64 t.s]] [.one .slc, .one (.int .i64)] K w := by
  refine f22_ok ?_
  unfold f22
  refine box_i fun g w1 e1 hg v1 => ?_
  refine ldT_i (a := t) v1 ?_
  refine tright_s fun w2 e2 => ?_
  cases hr : t.right with
  | false => exact cond_i (fun _ => h1 hr _ (e1.trans e2)) (fun h => by cases h)
  | true =>
    refine cond_i (fun h => by cases h) (fun _ => ?_)
    refine ldT_i (a := t) (v1.ext e2) ?_
    refine tbytes_s (putT_right hr) fun v w3 e3 o3 => ?_
    exact h2 hr v w3 ((e1.trans e2).trans e3) (o3.base (e1.trans e2).size)

theorem resT_i {P : Program} {w : World} {t g : Nat} [AggTy P t 3] {a : S.Tl} {e : Int} {K : Int → Int → Int → Int → World → Prop} (hv : Var w g (tls a)) (hK : K a.d a.o a.s e w) :
    ∃ v, (loadVar t (at_ g 0)).run P w = .ok v w ∧ decR [.agg lT, .one (.int .i64)] (.tuple #[v, .int .i64 e]) K fun r => r w :=
  resV_i (n := 3) hv rfl hK

theorem tparse_s {s : Sl} {bs : List UInt8} {K : Int → Int → Int → Int → World → Prop} {w : World} (hs : Bts w s bs) (hlen : bs.length ≤ 10000)
    (hK : ∀ w', Ext w w' → K (S.tParse bs).d (S.tParse bs).o (S.tParse bs).s (S.tErr bs) w') :
    callS Try.prog 10 #[.slice s.a s.len s.cap] [.agg lT, .one (.int .i64)] K w := by
  refine f10_ok ?_
  unfold f10
  have hbl := Bts.len hs
  have hcap := hs.cap
  refine alloc_i fun g2 w2 e2 hg2 v2 => ?_
  have hs2 := hs.ext e2
  -- an error
  have err : ∀ (e : Int) (w3 : World), Ext w2 w3 → S.tErr bs = e → e ≠ 0 →
      semU Try.prog (Instr.storeAt 25 (.pointer (some (at_ g2 0))) (.agg #[.int .i64 0, .int .i64 0, .int .i64 0])) (fun w =>
        ∃ v, (loadVar 25 (at_ g2 0)).run Try.prog w = .ok v w ∧ decR [.agg lT, .one (.int .i64)] (.tuple #[v, .int .i64 e]) K fun r => r w) w3 := fun e w3 h3 he hne => by
    refine stT_i (v2.ext h3) rfl fun w4 f4 v4 => ?_
    have hz : S.tParse bs = .zero := by unfold S.tParse; rw [if_neg (by rw [he]; exact hne)]
    have := hK w4 (Fr.own1 (e2.trans h3) f4 hg2)
    rw [hz, he] at this
    exact resT_i v4 this
  refine cond_i (fun h => ?_) (fun h => ?_)
  · have hl : bs.length ≠ 64 := by simp at h; omega
    exact err 10 w2 (Fr.refl _ _) (by unfold S.tErr; rw [if_pos hl]) (by omega)
  · have hl : bs.length = 64 := by simp at h; omega
    refine slHi_i (by omega) (by omega) ?_
    have c4 : Bts w2 (s.cut 1 0 (4 : Int).toNat) (bs.take 4) := by
      have := Bts.cut hs2 (l := 0) (hi := 4) (by omega) (by omega); simpa using this
    refine b2s_i c4 ?_
    rw [str_toList]
    have hmag : (ByteArray.mk #[65, 86, 66, 102]).toList = [65, 86, 66, 102] := by rw [ByteArray.toList_eq]
    rw [hmag]
    refine cond_i (fun h => ?_) (fun h => ?_)
    · have h4 : bs.take 4 ≠ [65, 86, 66, 102] := by simpa using h
      exact err 30 w2 (Fr.refl _ _) (by unfold S.tErr; rw [if_neg (Classical.not_not.2 hl), if_pos h4]) (by omega)
    · have h4 : bs.take 4 = [65, 86, 66, 102] := by simpa using h
      refine get_s hs2 (by omega) (by constructor <;> omega) (by constructor <;> omega) ?_
      rw [S.get4 hl]
      have hv := S.beN_inj (a := (bs.drop 4).take 4) (b := [0, 0, 0, 1]) (by simp; omega)
      rw [show S.beN [0, 0, 0, 1] = 1 by rfl] at hv
      refine cond_i (fun h => ?_) (fun h => ?_)
      · have h5 : (bs.drop 4).take 4 ≠ [0, 0, 0, 1] := fun h5 => by rw [hv.1 h5] at h; simp at h
        exact err 31 w2 (Fr.refl _ _) (by unfold S.tErr; rw [if_neg (Classical.not_not.2 hl), if_neg (Classical.not_not.2 h4), if_pos h5]) (by omega)
      · have h5 : (bs.drop 4).take 4 = [0, 0, 0, 1] := hv.2 (by have : ((S.beN ((bs.drop 4).take 4) : Int)) = 1 := by simpa using h
                                                                omega)
        have e12 : ∀ (w3 : World), Ext w2 w3 → ((S.tAt bs).right = false ∨ S.tB (S.tAt bs) ≠ bs) → _ := fun w3 h3 hbad =>
          err 12 w3 h3 (by unfold S.tErr; rw [if_neg (Classical.not_not.2 hl), if_neg (Classical.not_not.2 h4), if_neg (Classical.not_not.2 h5), if_pos hbad]) (by omega)
        refine alloc_i fun g3 w3 e3 hg3 v3 => ?_
        refine loop_i (fun (x : Int) w' => ∃ j : Nat, j ≤ 3 ∧ x = j ∧ Ext w2 w' ∧ Var w' g3 (((S.tVs bs).take j ++ List.replicate (3 - j) 0).map (Value.int .i64)) ∧ ∀ k, k < j → S.beN ((bs.drop (8 + 8 * k)).take 8) < 9223372036854775808) (fun x _ => 3 - x.toNat) ⟨0, by omega, rfl, e3, v3, fun k hk => by omega⟩ ?_
        rintro x w4 again ⟨j, hj, rfl, e4, v4, hsm⟩ hag
        refine cond_i (fun hlt => ?_) (fun hge => ?_)
        · have hj3 : j < 3 := by simp at hlt; omega
          rw [wrap_i64 (x := 8 * (j : Int)) (by omega) (by omega), wrap_i64 (x := 8 + 8 * (j : Int)) (by omega) (by omega)]
          refine get_s (hs2.ext e4) (by omega) (by constructor <;> omega) (by constructor <;> omega) ?_
          rw [S.get8 (by omega) (by omega), show (8 + 8 * (j : Int)).toNat = 8 + 8 * j by omega]
          by_cases hbig : S.beN ((bs.drop (8 + 8 * j)).take 8) ≥ 9223372036854775808
          · rw [if_pos hbig]
            exact cond_i (fun _ => e12 w4 e4 (.inl (S.tAt_big hj3 hbig))) (fun h => by cases h)
          · rw [if_neg hbig]
            refine cond_i (fun h => by cases h) (fun _ => ?_)
            refine stA_i (o := 0) v4 (by omega) (by omega) (by simp [S.tVs]; omega) rfl fun w5 f5 v5 => ?_
            have e5 : Ext w2 w5 := Fr.own1 e4 f5 hg3
            refine hag _ w5 ⟨j + 1, by omega, ?_, e5, ?_, fun k hk => ?_⟩ ?_
            · simp only [wrap_i64 (x := (j : Int) + 1) (by omega) (by omega)]; omega
            · have hset : ((((S.tVs bs).take j ++ List.replicate (3 - j) 0).map (Value.int .i64)).set (0 + ((j : Int)).toNat) (Value.int .i64 (S.beN ((bs.drop (8 + 8 * j)).take 8) : Int))) = ((S.tVs bs).take (j + 1) ++ List.replicate (3 - (j + 1)) 0).map (Value.int .i64) := by
                have : j = 0 ∨ j = 1 ∨ j = 2 := by omega
                rcases this with rfl | rfl | rfl <;> rfl
              rw [hset] at v5
              exact v5
            · by_cases hkj : k = j
              · subst hkj; omega
              · exact hsm k (by omega)
            · simp only [wrap_i64 (x := (j : Int) + 1) (by omega) (by omega)]; omega
        · have hj3 : j = 3 := by simp at hge; omega
          subst hj3
          have v4 : Var w4 g3 (tls (S.tAt bs)) := v4
          refine ixA_i (by omega) (by omega) ?_
          refine ld1_i (l := .int .i64) (S.tAt bs).d v4 rfl ?_
          refine ixA_i (by omega) (by omega) ?_
          refine ld1_i (l := .int .i64) (S.tAt bs).o v4 rfl ?_
          refine ixA_i (by omega) (by omega) ?_
          refine ld1_i (l := .int .i64) (S.tAt bs).s v4 rfl ?_
          refine alloc_i fun g5 w5 e5 hg5 v5 => ?_
          refine stT_i v5 rfl fun w6 f6 v6 => ?_
          have v6 : Var w6 g5 (tls (S.tAt bs)) := v6
          have e26 : Ext w2 w6 := e4.trans (Fr.own1 e5 f6 hg5)
          refine ldT_i v6 ?_
          refine tright_s fun w7 e7 => ?_
          have e27 := e26.trans e7
          refine join_i (fun b w' => b = !((S.tAt bs).right && (S.tB (S.tAt bs) == bs)) ∧ Ext w6 w') ?_ fun J hJ => ?_
          · rintro b w' ⟨rfl, e8⟩
            have e28 := e26.trans e8
            refine cond_i (fun h => e12 w' e28 ?_) (fun h => ?_)
            · cases hr : (S.tAt bs).right with
              | false => exact .inl rfl
              | true => rw [hr] at h; exact .inr (by simpa using h)
            · have hr : (S.tAt bs).right = true ∧ S.tB (S.tAt bs) = bs := by simpa using h
              have hz : S.tErr bs = 0 := by
                unfold S.tErr
                rw [if_neg (Classical.not_not.2 hl), if_neg (Classical.not_not.2 h4), if_neg (Classical.not_not.2 h5), if_neg (by rw [hr.1, hr.2]; simp)]
              have hp : S.tParse bs = S.tAt bs := by unfold S.tParse; rw [if_pos hz]
              refine ldT_i (v6.ext e8) ?_
              refine stT_i (v2.ext e28) rfl fun w9 f9 v9 => ?_
              have := hK w9 (Fr.own1 (e2.trans e28) f9 hg2)
              rw [hp, hz] at this
              exact resT_i (a := S.tAt bs) v9 this
          · cases hr : (S.tAt bs).right with
            | false => exact cond_i (fun _ => hJ _ _ ⟨by rw [hr]; rfl, e7⟩) (fun h => by cases h)
            | true =>
              refine cond_i (fun h => by cases h) (fun _ => ?_)
              refine ldT_i (v6.ext e7) ?_
              refine tbytes_s (putT_right hr) fun v w8 e8 o8 => ?_
              refine equal_s o8.rd (hs2.ext (e27.trans e8)) ?_
              exact hJ _ _ ⟨by rw [hr, Bool.true_and], e7.trans e8⟩
end Go.Proofs.Ytepjheacppoelaa
