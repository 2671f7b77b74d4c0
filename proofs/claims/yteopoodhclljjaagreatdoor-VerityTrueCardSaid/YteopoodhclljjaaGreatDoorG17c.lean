/- Sum02: put together by merge.py out of Sum02a Sum02b Sum02c Sum02d Sum02e Sum02f Sum02g Sum02h Sum02i Sum02l Sum02m Sum02n. -/
import Derived.Test.YteopoodhclljjaaGreatDoorSh
import Derived.Test.YteopoodhclljjaaGreatDoorTy
import Derived.Test.YteopoodhclljjaaGreatDoorG17b
import Derived.Test.YteopoodhclljjaaGreatDoorLib5
set_option linter.unusedSimpArgs false
set_option linter.unusedVariables false
/-! Sum02 -/
/-! Sum02a -/
namespace Go.S
def sh2 : Sha := ⟨.u32, 4, 64, 7, 18, 3, 17, 19, 10, 6, 11, 25, 2, 13, 22,
  [1116352408, 1899447441, 3049323471, 3921009573, 961987163, 1508970993, 2453635748, 2870763221, 3624381080, 310598401, 607225278, 1426881987, 1925078388, 2162078206, 2614888103, 3248222580, 3835390401, 4022224774, 264347078, 604807628, 770255983, 1249150122, 1555081692, 1996064986, 2554220882, 2821834349, 2952996808, 3210313671, 3336571891, 3584528711, 113926993, 338241895, 666307205, 773529912, 1294757372, 1396182291, 1695183700, 1986661051, 2177026350, 2456956037, 2730485921, 2820302411, 3259730800, 3345764771, 3516065817, 3600352804, 4094571909, 275423344, 430227734, 506948616, 659060556, 883997877, 958139571, 1322822218, 1537002063, 1747873779, 1955562222, 2024104815, 2227730452, 2361852424, 2428436474, 2756734187, 3204031479, 3329325298],
  [1779033703, 3144134277, 1013904242, 2773480762, 1359893119, 2600822924, 528734635, 1541459225], 8⟩
end Go.S
namespace Go.Proofs.YteopoodhclljjaaGreatDoor
open Go Go.Eng

theorem turn_arg : ∀ n : Fin 32, 1 ≤ n.val → andI .u64 (IntKind.wrap .u64 (IntKind.wrap .i64 (0 - (n.val : Int)))) 31 = 32 - (n.val : Int) := by decide +kernel
theorem turn_s {x : Int} {n : Nat} {K : Int → World → Prop} {w : World} (h1 : 1 ≤ n) (h2 : n ≤ 31) (hK : K (S.sh2.rot x n) w) :
    callS Tryz.prog 115 #[.int .u32 x, .int .i64 (n : Int)] [.one (.int .u32)] K w := by
  refine f115_ok ?_
  unfold f115
  refine f117_ok ?_
  unfold f117
  have ha := turn_arg ⟨n, by omega⟩ h1
  simp only at ha
  rw [ha]
  refine shl_i (by omega) ?_
  rw [show (32 : Int) - (32 - (n : Int)) = n by omega, wrap_u64 (by omega) (by omega)]
  refine shr_i (by omega) ?_
  rw [S.orI_comm]
  exact hK
theorem right_s {x : Int} {n : Nat} {K : Int → World → Prop} {w : World} (h1 : 1 ≤ n) (h2 : n ≤ 31) (hK : ∀ w', Ext w w' → K (S.sh2.rot x n) w') :
    callS Tryz.prog 107 #[.int .u32 x, .int .i64 (n : Int)] [.one (.int .u32)] K w := by
  refine f107_ok ?_
  unfold f107
  refine ⟨fun x => Ext w x, Ext.drew _, ?_⟩
  refine shrQ_i (by omega) ?_
  rw [wrap_i64 (by omega) (by omega)]
  refine shlQ_i (by omega) ?_
  exact hK _ (Ext.drew _)

/-- Words in a slice of one's own. -/
abbrev OwnW (w : World) (B : Nat) (s : Sl) (xs : List Int) : Prop := Own w B s 1 (xs.map (Value.int .u32))
theorem OwnW.len {w : World} {B : Nat} {s : Sl} {xs : List Int} (h : OwnW w B s xs) : s.len = xs.length := by have := Own.len h; simp at this; omega
theorem appendW_i {s : Sl} {xs : List Int} {B : Nat} {K : Sl → World → Prop} {w : World} (x : Int) (ho : OwnW w B s xs) (hlen : xs.length ≤ 100000) (hB : B ≤ w.heap.size) (hK : ∀ v w', Fr s.inB w w' → OwnW w' B v (xs ++ [x]) → K v w') :
    semS Tryz.prog (Instr.buildSlice 160 1 #[(0, .int .u32 x)]) (.one .slc) (fun y w => semS Tryz.prog (Builtin.append_ #[160, 160] 160 #[.slice s.a s.len s.cap, .slice y.a y.len y.cap]) (.one .slc) K w) w :=
  append1V_i (.int .u32 x) rfl rfl ho (by rw [OwnW.len ho]; omega) hB fun v w' h1 h2 _ => hK v w' h1 (by unfold OwnW; rw [List.map_append]; exact h2)
theorem wget {xs : List Int} {i : Nat} (h : i < xs.length) : (xs.map (Value.int .u32))[i]? = some (Lf.enc (.int .u32) (xs.getD i 0)) := by simp [h, Lf.enc]

/-- The word of four bytes, as the document reads it. -/
theorem beN4 {bs : List UInt8} {n : Nat} (hn : n ≤ 4) : S.beN (bs.take n) < 256 ^ n := by
  have := S.beN_lt (bs.take n)
  exact Nat.lt_of_lt_of_le this (Nat.pow_le_pow_right (by omega) (by simp; omega))
theorem beN_take_succ {bs : List UInt8} {k : Nat} (h : k < bs.length) : S.beN (bs.take (k + 1)) = S.beN (bs.take k) * 256 + bs[k].toNat := by rw [List.take_succ_eq_append_getElem h, S.beN_snoc]
end Go.Proofs.YteopoodhclljjaaGreatDoor

/-! Sum02b -/
namespace Go.S
theorem word2_lt (bs : List UInt8) (i : Nat) : sh2.word bs i < 4294967296 := by
  have := beN_lt ((bs.drop (4 * i)).take 4)
  have h2 : 256 ^ ((bs.drop (4 * i)).take 4).length ≤ 256 ^ 4 := Nat.pow_le_pow_right (by omega) (by simp; omega)
  show ((beN ((bs.drop (4 * i)).take 4) : Nat) : Int) < 4294967296
  omega
theorem range_succ_map {α : Type} (f : Nat → α) (i : Nat) : (List.range (i + 1)).map f = (List.range i).map f ++ [f i] := by rw [List.range_succ, List.map_append]; rfl
end Go.S
namespace Go.Proofs.YteopoodhclljjaaGreatDoor
open Go Go.Eng

theorem refWords_s {s : Sl} {bs : List UInt8} {K : Sl → World → Prop} {w : World} (hs : Bts w s bs) (hl : bs.length = 64) (hK : ∀ v w', Ext w w' → OwnW w' w.heap.size v (S.sh2.sched bs) → K v w') :
    callS Tryz.prog 105 #[.slice s.a s.len s.cap] [.one .slc] K w := by
  refine f105_ok ?_
  unfold f105
  have hbl := Bts.len hs
  refine loop_i (fun (x : Sl × Int) w' => ∃ i : Nat, i ≤ 16 ∧ x.2 = i ∧ Ext w w' ∧ OwnW w' w.heap.size x.1 ((List.range i).map (S.sh2.word bs))) (fun x _ => 16 - x.2.toNat) ⟨0, by omega, rfl, Fr.refl _ _, Own.nilSl _ _ _⟩ ?_
  rintro ⟨v, i'⟩ w1 again ⟨i, hi, hxi, e1, o1⟩ hag
  dsimp only at hxi o1 ⊢
  subst hxi
  have hs1 := hs.ext e1
  refine cond_i (fun hlt => ?_) (fun hge => ?_)
  · have hi' : i < 16 := by simp at hlt; omega
    have hsl : ((bs.drop (4 * i)).take 4).length = 4 := by simp; omega
    have hat : ∀ (k : Nat), k < 4 → bs[4 * i + k]? = ((bs.drop (4 * i)).take 4)[k]? := by intro k hk; simp [hk]
    have hw : S.sh2.word bs i = (S.beN ((bs.drop (4 * i)).take 4) : Int) := rfl
    generalize (bs.drop (4 * i)).take 4 = sub at hsl hat hw
    refine loop_i (fun (x : Int × Int) w' => w' = w1 ∧ ∃ k : Nat, k ≤ 4 ∧ x.2 = k ∧ x.1 = (S.beN (sub.take k) : Int)) (fun x _ => 4 - x.2.toNat) ⟨rfl, 0, by omega, rfl, rfl⟩ ?_
    rintro ⟨n, k'⟩ w2 again2 ⟨rfl, k, hk, hxk, hxn⟩ hag2
    dsimp only at hxk hxn ⊢
    subst hxk
    subst hxn
    have hbn := S.beN_lt (sub.take k)
    have hpow : 256 ^ (sub.take k).length ≤ 256 ^ k := Nat.pow_le_pow_right (by omega) (by simp; omega)
    refine cond_i (fun hlt2 => ?_) (fun hge2 => ?_)
    · have hk4 : k < 4 := by simp at hlt2; omega
      have hp3 : 256 ^ k ≤ 256 ^ 3 := Nat.pow_le_pow_right (by omega) (by omega)
      rw [wrap_i64 (x := 4 * (i : Int)) (by omega) (by omega), wrap_i64 (x := 4 * (i : Int) + k) (by omega) (by omega)]
      refine elem_i (x := ((sub[k]'(by omega)).toNat : Int)) hs1 (by omega) (by omega) (bytes_get? (by rw [show (4 * (i : Int) + (k : Int)).toNat = 4 * i + k by omega, hat k hk4, List.getElem?_eq_getElem])) ?_
      have hb := (sub[k]'(by omega)).toNat_lt
      refine hag2 _ w2 ⟨rfl, k + 1, by omega, ?_, ?_⟩ ?_
      · simp only [wrap_i64 (x := (k : Int) + 1) (by omega) (by omega)]; omega
      · simp only [beN_take_succ (show k < sub.length by omega)]
        rw [wrap_u32 (x := (S.beN (sub.take k) : Int) * 256) (by omega) (by omega), wrap_u32 (x := ((sub[k]'(by omega)).toNat : Int)) (by omega) (by omega), wrap_u32 (by omega) (by omega)]
        omega
      · simp only [wrap_i64 (x := (k : Int) + 1) (by omega) (by omega)]; omega
    · have hk4 : k = 4 := by simp at hge2; omega
      subst hk4
      rw [List.take_of_length_le (by omega), ← hw]
      refine appendW_i _ o1 (by simp; omega) e1.size fun v3 w3 f3 o3 => ?_
      refine hag _ w3 ⟨i + 1, by omega, ?_, Ext.own e1 f3 fun i hi => (o1.inB hi).1, ?_⟩ ?_
      · simp only [wrap_i64 (x := (i : Int) + 1) (by omega) (by omega)]; omega
      · rw [S.range_succ_map]; exact o3
      · simp only [wrap_i64 (x := (i : Int) + 1) (by omega) (by omega)]; omega
  · have hi16 : i = 16 := by simp at hge; omega
    subst hi16
    clear hag hge
    refine loop_i (fun (x : Sl × Int) w' => ∃ j : Nat, j ≤ 48 ∧ x.2 = (16 : Int) + j ∧ Ext w w' ∧ OwnW w' w.heap.size x.1 (S.sh2.ext j (S.sh2.words bs))) (fun x _ => 64 - x.2.toNat) ⟨0, by omega, rfl, e1, o1⟩ ?_
    rintro ⟨v2, i'⟩ w2 again2 ⟨j, hj, hxi, e2, o2⟩ hag
    dsimp only at hxi o2 ⊢
    subst hxi
    have hwl : (S.sh2.ext j (S.sh2.words bs)).length = 16 + j := by rw [S.Sha.ext_len, S.Sha.words_len]
    refine cond_i (fun hlt => ?_) (fun hge => ?_)
    · have hj' : j < 48 := by simp at hlt; omega
      have hnx : S.sh2.ext (j + 1) (S.sh2.words bs) = S.sh2.ext j (S.sh2.words bs) ++ [S.sh2.next (S.sh2.ext j (S.sh2.words bs))] := S.Sha.ext_snoc _ _ _
      generalize S.sh2.ext j (S.sh2.words bs) = ws at o2 hwl hnx
      have hvl := OwnW.len o2
      obtain ⟨a, ha⟩ := o2.rd.some (by omega)
      have el : ∀ d : Nat, d ≤ 16 → 1 ≤ d → (ws.map (Value.int .u32))[((16 : Int) + j - d).toNat]? = some (Lf.enc (.int .u32) (ws.getD (ws.length - d) 0)) := fun d h1 h2 => by
        rw [show ((16 : Int) + j - d).toNat = ws.length - d by omega]; exact wget (by omega)
      rw [wrap_i64 (x := (16 : Int) + j - 15) (by omega) (by omega), wrap_i64 (x := (16 : Int) + j - 2) (by omega) (by omega), wrap_i64 (x := (16 : Int) + j - 16) (by omega) (by omega), wrap_i64 (x := (16 : Int) + j - 7) (by omega) (by omega)]
      refine ⟨fun x => Ext w2 x, Ext.drew _, ?_⟩
      refine elemQ_i (l := .int .u32) ha (fun x hx => (o2.ext hx).rd) (by omega) (by omega) (el 15 (by omega) (by omega)) ?_
      refine elemQ_i (l := .int .u32) ha (fun x hx => (o2.ext hx).rd) (by omega) (by omega) (el 15 (by omega) (by omega)) ?_
      refine elemQ_i (l := .int .u32) ha (fun x hx => (o2.ext hx).rd) (by omega) (by omega) (el 15 (by omega) (by omega)) ?_
      refine right_s (n := 7) (by omega) (by omega) fun w3 e3 => ?_
      have E3 := (Ext.drew w2).trans e3
      refine more_i E3 ?_
      refine right_s (n := 18) (by omega) (by omega) fun w4 e4 => ?_
      have E4 := E3.trans e4
      refine more_i E4 ?_
      refine ⟨fun x => Ext w2 x, E4.trans (Ext.drew _), ?_⟩
      refine elemQ_i (l := .int .u32) ha (fun x hx => (o2.ext hx).rd) (by omega) (by omega) (el 2 (by omega) (by omega)) ?_
      refine elemQ_i (l := .int .u32) ha (fun x hx => (o2.ext hx).rd) (by omega) (by omega) (el 2 (by omega) (by omega)) ?_
      refine elemQ_i (l := .int .u32) ha (fun x hx => (o2.ext hx).rd) (by omega) (by omega) (el 2 (by omega) (by omega)) ?_
      refine right_s (n := 17) (by omega) (by omega) fun w5 e5 => ?_
      have E5 := (E4.trans (Ext.drew _)).trans e5
      refine more_i E5 ?_
      refine right_s (n := 19) (by omega) (by omega) fun w6 e6 => ?_
      have E6 := E5.trans e6
      refine more_i E6 ?_
      refine ⟨fun x => Ext w2 x, E6.trans (Ext.drew _), ?_⟩
      refine elemQ_i (l := .int .u32) ha (fun x hx => (o2.ext hx).rd) (by omega) (by omega) (el 16 (by omega) (by omega)) ?_
      refine elemQ_i (l := .int .u32) ha (fun x hx => (o2.ext hx).rd) (by omega) (by omega) (el 7 (by omega) (by omega)) ?_
      have E7 := E6.trans (Ext.drew w6)
      have o7 := o2.ext E7
      refine appendW_i _ o7 (by omega) (e2.trans E7).size fun v8 w8 f8 o8 => ?_
      refine hag _ w8 ⟨j + 1, by omega, ?_, Ext.own (e2.trans E7) f8 fun i hi => (o7.inB hi).1, ?_⟩ ?_
      · simp only [wrap_i64 (x := (16 : Int) + j + 1) (by omega) (by omega)]; omega
      · rw [hnx]; exact o8
      · simp only [wrap_i64 (x := (16 : Int) + j + 1) (by omega) (by omega)]; omega
    · have hj' : j = 48 := by simp at hge; omega
      subst hj'
      exact hK v2 w2 e2 o2
end Go.Proofs.YteopoodhclljjaaGreatDoor

/-! Sum02c -/
namespace Go.Proofs.YteopoodhclljjaaGreatDoor
open Go Go.Eng

theorem orByte32 {n c : Nat} (hn : n * 256 + c < 4294967296) (hc : c < 256) : orI .u32 (shlI .u32 (n : Int) 8) (IntKind.wrap .u32 (c : Int)) = ((n * 256 + c : Nat) : Int) := by
  have h1 : IntKind.wrap .u32 (c : Int) = c := wrap_u32 (by omega) (by omega)
  have h2 : IntKind.wrap .u32 ((n * 256 : Nat) : Int) = ((n * 256 : Nat) : Int) := wrap_u32 (by omega) (by omega)
  have h3 : ((n : Int) * 2 ^ (8 : Int).toNat) = ((n * 256 : Nat) : Int) := by simp
  have h4 : orI .u32 ((n * 256 : Nat) : Int) (c : Int) = ((n * 256 ||| c : Nat) : Int) := or_u32 (Nat.lt_of_le_of_lt (Nat.le_add_right _ _) hn) (Nat.lt_of_le_of_lt (Nat.le_add_left _ _) hn)
  have h5 : n * 256 ||| c = n * 256 + c := or_shift n c 8 hc
  rw [shlI_lit _ _ _ (by decide), h1, h3, h2, h4, h5]
theorem set_mid {xs : List Int} {m : Nat} {x y : Int} {i : Nat} (hx : xs.length = i) : ((xs ++ x :: List.replicate m 0).map (Value.int .u32)).set i (.int .u32 y) = (xs ++ y :: List.replicate m 0).map (Value.int .u32) := by
  subst hx; simp

theorem schedule_s {s : Sl} {bs : List UInt8} {K : List Int → World → Prop} {w : World} (hs : Bts w s bs) (hl : bs.length = 64) (hK : ∀ w', Ext w w' → K (S.sh2.sched bs) w') :
    callS Tryz.prog 114 #[.slice s.a s.len s.cap] [.one (.arr .u32)] K w := by
  refine f114_ok ?_
  unfold f114
  have hbl := Bts.len hs
  have hcap := hs.cap
  refine alloc_i fun g w1 e1 hg v1 => ?_
  have own : ∀ {a b : World}, Ext w a → Fr (fun k => k = g) a b → Ext w b := fun h1 h2 => Fr.own1 h1 h2 hg
  refine loop_i (fun (x : Int) w' => ∃ i : Nat, i ≤ 16 ∧ x = i ∧ Ext w w' ∧ Var w' g (((List.range i).map (S.sh2.word bs) ++ List.replicate (64 - i) 0).map (Value.int .u32))) (fun x _ => 16 - x.toNat) ⟨0, by omega, rfl, e1, v1⟩ ?_
  rintro i' w2 again ⟨i, hi, rfl, e2, v2⟩ hag
  have hs2 := hs.ext e2
  refine cond_i (fun hlt => ?_) (fun hge => ?_)
  · have hi' : i < 16 := by simp at hlt; omega
    rw [wrap_i64 (x := 4 * (i : Int)) (by omega) (by omega), wrap_i64 (x := 4 * (i : Int) + 4) (by omega) (by omega)]
    refine sl2_i (by omega) (by omega) (by omega) ?_
    have hc := Bts.cut hs (l := (4 * (i : Int)).toNat) (hi := (4 * (i : Int) + 4).toNat) (by omega) (by omega)
    rw [show (4 * (i : Int)).toNat = 4 * i by omega, show (4 * (i : Int) + 4).toNat = 4 * i + 4 by omega, show 4 * i + 4 - 4 * i = 4 by omega] at hc
    rw [show (4 * (i : Int)).toNat = 4 * i by omega, show (4 * (i : Int) + 4).toNat = 4 * i + 4 by omega]
    have hsl : ((bs.drop (4 * i)).take 4).length = 4 := by simp; omega
    have hw : S.sh2.word bs i = (S.beN ((bs.drop (4 * i)).take 4) : Int) := rfl
    generalize (bs.drop (4 * i)).take 4 = sub at hsl hc hw
    generalize s.cut 1 (4 * i) (4 * i + 4) = t at hc
    have htl := Bts.len hc
    have hpl : ((List.range i).map (S.sh2.word bs)).length = i := by simp
    have hrep : List.replicate (64 - i) (0 : Int) = 0 :: List.replicate (63 - i) 0 := by rw [show 64 - i = (63 - i) + 1 by omega, List.replicate_succ]
    rw [hrep] at v2
    refine loop_i (fun (x : Int) w' => ∃ k : Nat, k ≤ 4 ∧ x = k ∧ Ext w w' ∧ Var w' g (((List.range i).map (S.sh2.word bs) ++ (S.beN (sub.take k) : Int) :: List.replicate (63 - i) 0).map (Value.int .u32))) (fun x _ => 4 - x.toNat) ⟨0, by omega, rfl, e2, by simpa [S.beN] using v2⟩ ?_
    rintro k' w3 again2 ⟨k, hk, rfl, e3, v3⟩ hag2
    have hbn := S.beN_lt (sub.take k)
    have hpow : 256 ^ (sub.take k).length ≤ 256 ^ k := Nat.pow_le_pow_right (by omega) (by simp; omega)
    refine cond_i (fun hlt2 => ?_) (fun hge2 => ?_)
    · have hk4 : k < 4 := by simp at hlt2; omega
      have hp3 : 256 ^ k ≤ 256 ^ 3 := Nat.pow_le_pow_right (by omega) (by omega)
      refine elem_i (x := ((sub[k]'(by omega)).toNat : Int)) (hc.ext e3) (by omega) (by omega) (by simpa using bytes_get (show k < sub.length by omega)) ?_
      have hb := (sub[k]'(by omega)).toNat_lt
      refine elA_i (l := .int .u32) (x := (S.beN (sub.take k) : Int)) v3 (by omega) (by omega) ?_ ?_
      · simp [hpl, Lf.enc]
      · refine stA_i v3 (by omega) (by omega) (by simp <;> omega) rfl fun w4 f4 v4 => ?_
        refine hag2 _ w4 ⟨k + 1, by omega, ?_, own e3 f4, ?_⟩ ?_
        · rw [wrap_i64 (by omega) (by omega)]; omega
        · rw [orByte32 (by omega) (by omega), ← beN_take_succ (show k < sub.length by omega)] at v4
          rw [show 0 + ((i : Int)).toNat = i by omega, set_mid hpl] at v4
          exact v4
        · rw [wrap_i64 (by omega) (by omega)]; omega
    · have hk4 : k = 4 := by simp at hge2; omega
      subst hk4
      rw [List.take_of_length_le (by omega), ← hw] at v3
      refine hag _ w3 ⟨i + 1, by omega, ?_, e3, ?_⟩ ?_
      · rw [wrap_i64 (by omega) (by omega)]; omega
      · rw [S.range_succ_map, show 64 - (i + 1) = 63 - i by omega, List.append_assoc]; exact v3
      · rw [wrap_i64 (by omega) (by omega)]; omega
  · have hi16 : i = 16 := by simp at hge; omega
    subst hi16
    clear hag hge
    refine loop_i (fun (x : Int) w' => ∃ j : Nat, j ≤ 48 ∧ x = (16 : Int) + j ∧ Ext w w' ∧ Var w' g ((S.sh2.ext j (S.sh2.words bs) ++ List.replicate (48 - j) 0).map (Value.int .u32))) (fun x _ => 64 - x.toNat) ⟨0, by omega, rfl, e2, v2⟩ ?_
    rintro i' w3 again2 ⟨j, hj, rfl, e3, v3⟩ hag
    have hwl : (S.sh2.ext j (S.sh2.words bs)).length = 16 + j := by rw [S.Sha.ext_len, S.Sha.words_len]
    refine cond_i (fun hlt => ?_) (fun hge => ?_)
    · have hj' : j < 48 := by simp at hlt; omega
      have hnx : S.sh2.ext (j + 1) (S.sh2.words bs) = S.sh2.ext j (S.sh2.words bs) ++ [S.sh2.next (S.sh2.ext j (S.sh2.words bs))] := S.Sha.ext_snoc _ _ _
      generalize S.sh2.ext j (S.sh2.words bs) = ws at v3 hwl hnx
      have hrep : List.replicate (48 - j) (0 : Int) = 0 :: List.replicate (47 - j) 0 := by rw [show 48 - j = (47 - j) + 1 by omega, List.replicate_succ]
      rw [hrep] at v3
      have el : ∀ d : Nat, d ≤ 16 → 1 ≤ d → ((ws ++ 0 :: List.replicate (47 - j) 0).map (Value.int .u32))[0 + ((16 : Int) + j - d).toNat]? = some (Lf.enc (.int .u32) (ws.getD (ws.length - d) 0)) := fun d h1 h2 => by
        rw [show 0 + ((16 : Int) + j - d).toNat = ws.length - d by omega, List.map_append, List.getElem?_append_left (by simp; omega)]; exact wget (by omega)
      rw [wrap_i64 (x := (16 : Int) + j - 15) (by omega) (by omega), wrap_i64 (x := (16 : Int) + j - 2) (by omega) (by omega), wrap_i64 (x := (16 : Int) + j - 16) (by omega) (by omega), wrap_i64 (x := (16 : Int) + j - 7) (by omega) (by omega)]
      refine ⟨fun x => Ext w3 x, Ext.drew _, ?_⟩
      refine elAQ_i (l := .int .u32) (fun x hx => v3.ext hx) (by omega) (by omega) (el 15 (by omega) (by omega)) ?_
      refine elAQ_i (l := .int .u32) (fun x hx => v3.ext hx) (by omega) (by omega) (el 2 (by omega) (by omega)) ?_
      have E3 := (Ext.drew w3).trans (Ext.drew _)
      refine ⟨fun x => Ext w3 x, E3, ?_⟩
      refine elAQ_i (l := .int .u32) (fun x hx => v3.ext hx) (by omega) (by omega) (el 16 (by omega) (by omega)) ?_
      refine elAQ_i (l := .int .u32) (fun x hx => v3.ext hx) (by omega) (by omega) (el 7 (by omega) (by omega)) ?_
      refine turn_s (n := 7) (by omega) (by omega) ?_
      refine more_i E3 ?_
      refine turn_s (n := 18) (by omega) (by omega) ?_
      refine more_i E3 ?_
      refine turn_s (n := 17) (by omega) (by omega) ?_
      refine more_i E3 ?_
      refine turn_s (n := 19) (by omega) (by omega) ?_
      refine more_i E3 ?_
      refine ixAQ_i (by omega) (by omega) ?_
      rw [Nat.mul_one, at_add]
      refine st1_i (v3.ext E3) (by simp <;> omega) rfl fun w4 f4 v4 => ?_
      refine hag _ w4 ⟨j + 1, by omega, ?_, own (e3.trans E3) f4, ?_⟩ ?_
      · rw [wrap_i64 (by omega) (by omega)]; omega
      · rw [show 0 + ((16 : Int) + j).toNat = 16 + j by omega, set_mid hwl] at v4
        rw [hnx, show 48 - (j + 1) = 47 - j by omega, List.append_assoc]; exact v4
      · rw [wrap_i64 (by omega) (by omega)]; omega
    · have hj' : j = 48 := by simp at hge; omega
      subst hj'
      have hwl2 : (S.sh2.ext 48 (S.sh2.words bs)).length = 64 := hwl
      rw [show List.replicate (48 - 48) (0 : Int) = [] by rfl, List.append_nil] at v3
      refine ldArr_i v3 hwl2 ?_
      refine stArr_i v3 hwl2 (by simpa using hwl2) fun w4 f4 v4 => ?_
      exact resV_i v4 (by simpa using hwl2) ⟨_, rfl, hK w4 (own e3 f4)⟩
end Go.Proofs.YteopoodhclljjaaGreatDoor

/-! Sum02d -/
namespace Go.Proofs.YteopoodhclljjaaGreatDoor
open Go Go.Eng

abbrev wl (s : S.Sha.St) : List Value := s.list.map (Value.int .u32)
abbrev l8 : List Lf := [.int .u32, .int .u32, .int .u32, .int .u32, .int .u32, .int .u32, .int .u32, .int .u32]
theorem ld8_i {P : Program} {w : World} {t g : Nat} [AggTy P t 8] {s : S.Sha.St} {tl : List Value} {K : Int → Int → Int → Int → Int → Int → Int → Int → World → Prop} (h : Var w g (wl s ++ tl)) (hK : K s.a s.b s.c s.d s.e s.f s.g s.h w) :
    semS P (Instr.loadAt t (.pointer (some (at_ g 0)))) (.agg l8) K w := by
  refine ldV_i (n := 8) (ls := l8) 0 h (by simp [S.Sha.St.list]) ?_
  exact hK
theorem mix_set {xs zs : List Int} {tl : List Value} {i : Nat} {z : Int} (hl : xs.length = zs.length) (hi : i < xs.length) (hz : zs[i]? = some z) :
    ((zs.take i ++ xs.drop i).map (Value.int .u32) ++ tl).set i (.int .u32 z) = (zs.take (i + 1) ++ xs.drop (i + 1)).map (Value.int .u32) ++ tl := by
  have h1 : xs.drop i = xs[i] :: xs.drop (i + 1) := List.drop_eq_getElem_cons hi
  have h2 : zs.take (i + 1) = zs.take i ++ [z] := by rw [List.take_add_one, hz]; rfl
  have h3 : ((zs.take i).map (Value.int .u32)).length = i := by simp; omega
  rw [h1, h2, List.map_append, List.map_cons, List.append_assoc, List.set_append_right _ _ (by omega), h3, Nat.sub_self]
  simp
theorem take_s {gh : Nat} {st : S.Sha.St} {tl : List Value} {s : Sl} {bs : List UInt8} {K : World → Prop} {w : World} (hv : Var w gh (wl st ++ tl)) (hs : Bts w s bs) (hl : bs.length = 64) (hg : Var w 3 (S.sh2.K.map (Value.int .u32)))
    (hK : ∀ w', Fr (fun k => k = gh) w w' → Var w' gh (wl (S.sh2.comp st bs) ++ tl) → K w') :
    callS Tryz.prog 104 #[.pointer (some (at_ gh 0)), .slice s.a s.len s.cap] [] K w := by
  refine f104_ok ?_
  unfold f104
  refine schedule_s hs hl fun w1 e1 => ?_
  have hwl : (S.sh2.sched bs).length = 64 := by unfold S.Sha.sched; rw [S.Sha.ext_len, S.Sha.words_len]; rfl
  refine alloc_i fun g2 w2 e2 hg2 v2 => ?_
  refine stArr_i v2 hwl rfl fun w3 f3 v3 => ?_
  have e13 := Fr.own1 e2 f3 hg2
  have e3 := e1.trans e13
  refine nil_i rfl ?_
  refine ld8_i (hv.ext e3) ?_
  refine alloc_i fun g4 w4 e4 hg4 v4 => ?_
  refine stV_i (vs := wl st) 0 v4 rfl (Nat.le_refl 8) int_one fun w5 f5 v5 => ?_
  have v5' : Var w5 g4 (wl st) := v5
  have e35 := Fr.own1 e4 f5 hg4
  have e5 := e3.trans e35
  have hgg : g2 ≠ g4 := by have := v3.lt; omega
  have own4 : ∀ {a b : World}, Ext w3 a → Fr (fun k => k = g4) a b → Ext w3 b := fun h1 h2 => Fr.own1 h1 h2 hg4
  refine ldArr_i (n := 64) (hg.ext e5) rfl ?_
  refine loop_i (fun (x : Int) w' => ∃ i : Nat, i ≤ 64 ∧ x = i ∧ Ext w3 w' ∧ Var w' g4 (wl (S.sh2.rounds st (S.sh2.sched bs) i))) (fun x _ => 64 - x.toNat) ⟨0, by omega, rfl, e35, v5'⟩ ?_
  rintro i' w6 again ⟨i, hi, rfl, e6, v6⟩ hag
  refine cond_i (fun hlt => ?_) (fun hge => ?_)
  · have hi' : i < 64 := by simp at hlt; omega
    have hstep : S.sh2.rounds st (S.sh2.sched bs) (i + 1) = S.sh2.step (S.sh2.rounds st (S.sh2.sched bs) i) (S.sh2.K.getD i 0) ((S.sh2.sched bs).getD i 0) := rfl
    generalize S.sh2.rounds st (S.sh2.sched bs) i = r at v6 hstep
    refine ixL_i (l := .int .u32) (x := S.sh2.K.getD i 0) (by omega) (by omega) (wget (show i < S.sh2.K.length from hi')) ?_
    have q : ∀ {n : Nat} {x : Int}, (wl r)[0 + n]? = some (.int .u32 x) → ∀ {n' : Int}, n'.toNat = n → (wl r)[0 + n'.toNat]? = some (Lf.enc (.int .u32) x) := fun h1 _ h2 => by rw [h2]; exact h1
    refine ⟨fun x => Ext w6 x, Ext.drew _, ?_⟩
    refine elAQ_i (l := .int .u32) (x := r.a) (fun x hx => v6.ext hx) (by omega) (by omega) rfl ?_
    refine elAQ_i (l := .int .u32) (x := r.e) (fun x hx => v6.ext hx) (by omega) (by omega) rfl ?_
    have E1 := (Ext.drew w6).trans (Ext.drew _)
    refine ⟨fun x => Ext w6 x, E1, ?_⟩
    refine elAQ_i (l := .int .u32) (x := r.h) (fun x hx => v6.ext hx) (by omega) (by omega) rfl ?_
    refine elAQ_i (l := .int .u32) (x := r.f) (fun x hx => v6.ext hx) (by omega) (by omega) rfl ?_
    refine elAQ_i (l := .int .u32) (x := r.g) (fun x hx => v6.ext hx) (by omega) (by omega) rfl ?_
    refine elAQ_i (l := .int .u32) (x := (S.sh2.sched bs).getD i 0) (fun x hx => (v3.ext e6).ext hx) (by omega) (by omega) (by rw [show 0 + ((i : Int)).toNat = i by omega]; exact wget (by omega)) ?_
    refine turn_s (n := 6) (by omega) (by omega) ?_
    refine more_i E1 ?_
    refine turn_s (n := 11) (by omega) (by omega) ?_
    refine more_i E1 ?_
    refine turn_s (n := 25) (by omega) (by omega) ?_
    refine more_i E1 ?_
    have E2 := E1.trans (Ext.drew _)
    refine ⟨fun x => Ext w6 x, E2, ?_⟩
    refine elAQ_i (l := .int .u32) (x := r.b) (fun x hx => v6.ext hx) (by omega) (by omega) rfl ?_
    refine elAQ_i (l := .int .u32) (x := r.c) (fun x hx => v6.ext hx) (by omega) (by omega) rfl ?_
    refine elAQ_i (l := .int .u32) (x := r.b) (fun x hx => v6.ext hx) (by omega) (by omega) rfl ?_
    refine elAQ_i (l := .int .u32) (x := r.c) (fun x hx => v6.ext hx) (by omega) (by omega) rfl ?_
    refine turn_s (n := 2) (by omega) (by omega) ?_
    refine more_i E2 ?_
    refine turn_s (n := 13) (by omega) (by omega) ?_
    refine more_i E2 ?_
    refine turn_s (n := 22) (by omega) (by omega) ?_
    refine more_i E2 ?_
    have v7 := v6.ext E2
    refine elA_i (l := .int .u32) (x := r.b) v7 (by omega) (by omega) rfl ?_
    refine elA_i (l := .int .u32) (x := r.c) v7 (by omega) (by omega) rfl ?_
    refine elA_i (l := .int .u32) (x := r.d) v7 (by omega) (by omega) rfl ?_
    refine elA_i (l := .int .u32) (x := r.f) v7 (by omega) (by omega) rfl ?_
    refine elA_i (l := .int .u32) (x := r.g) v7 (by omega) (by omega) rfl ?_
    refine stV_i (vs := wl (S.sh2.step r (S.sh2.K.getD i 0) ((S.sh2.sched bs).getD i 0))) 0 v7 rfl (Nat.le_refl 8) int_one fun w8 f8 v8 => ?_
    refine hag _ w8 ⟨i + 1, by omega, ?_, own4 (e6.trans E2) f8, ?_⟩ ?_
    · rw [wrap_i64 (by omega) (by omega)]; omega
    · rw [hstep]; exact v8
    · rw [wrap_i64 (by omega) (by omega)]; omega
  · have hi64 : i = 64 := by simp at hge; omega
    subst hi64
    have hcomp : S.sh2.comp st bs = S.sh2.plus st (S.sh2.rounds st (S.sh2.sched bs) 64) := rfl
    clear hag hge
    generalize S.sh2.rounds st (S.sh2.sched bs) 64 = r at v6 hcomp
    refine ld8_i (s := r) (tl := []) (by simpa using v6) ?_
    have e36 := e3.trans e6
    refine loop_i (fun (x : Int) w' => ∃ i : Nat, i ≤ 8 ∧ x = i ∧ Fr (fun k => k = gh) w w' ∧ Var w' gh (((S.sh2.plus st r).list.take i ++ st.list.drop i).map (Value.int .u32) ++ tl)) (fun x _ => 8 - x.toNat) ⟨0, by omega, rfl, e36.fr, hv.ext e36⟩ ?_
    rintro i' w7 again2 ⟨i, hi, rfl, f7, v7⟩ hag
    refine cond_i (fun hlt => ?_) (fun hge => ?_)
    · have hi' : i < 8 := by simp at hlt; omega
      have hpl : (S.sh2.plus st r).list[i]? = some (S.sh2.add (st.list.getD i 0) (r.list.getD i 0)) := by
        have : i = 0 ∨ i = 1 ∨ i = 2 ∨ i = 3 ∨ i = 4 ∨ i = 5 ∨ i = 6 ∨ i = 7 := by omega
        rcases this with rfl | rfl | rfl | rfl | rfl | rfl | rfl | rfl <;> rfl
      have hcur : (((S.sh2.plus st r).list.take i ++ st.list.drop i).map (Value.int .u32) ++ tl)[0 + ((i : Int)).toNat]? = some (Lf.enc (.int .u32) (st.list.getD i 0)) := by
        have : i = 0 ∨ i = 1 ∨ i = 2 ∨ i = 3 ∨ i = 4 ∨ i = 5 ∨ i = 6 ∨ i = 7 := by omega
        rcases this with rfl | rfl | rfl | rfl | rfl | rfl | rfl | rfl <;> rfl
      refine ixL_i (cs := wl r) (l := .int .u32) (x := r.list.getD i 0) (by omega) (by omega) (wget (show i < r.list.length from hi')) ?_
      refine ⟨fun x => Ext w7 x, Ext.drew _, ?_⟩
      refine nil_i rfl ?_
      refine elAQ_i (l := .int .u32) (o := 0) (fun x hx => v7.ext hx) (by omega) (by omega) hcur ?_
      refine nil_i rfl ?_
      refine ixAQ_i (by omega) (by omega) ?_
      rw [Nat.mul_one, show ((at_ gh 0).add 0).add ((i : Int)).toNat = at_ gh (0 + ((i : Int)).toNat) from at_add gh 0 _]
      have hlen8 : 0 + ((i : Int)).toNat < (((S.sh2.plus st r).list.take i ++ st.list.drop i).map (Value.int .u32) ++ tl).length := (List.getElem?_eq_some_iff.1 hcur).1
      refine st1_i (v7.ext (Ext.drew _)) hlen8 rfl fun w8 f8 v8 => ?_
      refine hag _ w8 ⟨i + 1, by omega, ?_, (f7.then (Ext.drew _)).trans' f8, ?_⟩ ?_
      · rw [wrap_i64 (by omega) (by omega)]; omega
      · rw [show 0 + ((i : Int)).toNat = i by omega] at v8
        have := mix_set (xs := st.list) (zs := (S.sh2.plus st r).list) (tl := tl) (i := i) rfl hi' hpl
        rw [← this]
        exact v8
      · rw [wrap_i64 (by omega) (by omega)]; omega
    · have hi8 : i = 8 := by simp at hge; omega
      subst hi8
      refine hK w7 f7 ?_
      rw [hcomp]
      exact v7
end Go.Proofs.YteopoodhclljjaaGreatDoor

/-! Sum02e -/
namespace Go.S
open Go Go.Eng
theorem add_assoc32 (a b c : Int) : sh2.add (sh2.add a b) c = sh2.add a (sh2.add b c) := by
  show IntKind.wrap .u32 (IntKind.wrap .u32 (a + b) + c) = IntKind.wrap .u32 (a + IntKind.wrap .u32 (b + c))
  rw [wrap_u32_mod, wrap_u32_mod, wrap_u32_mod, wrap_u32_mod]
  omega
end Go.S
namespace Go.Proofs.YteopoodhclljjaaGreatDoor
open Go Go.Eng

theorem constants_s {K : Sl → World → Prop} {w : World} (hK : ∀ v w', Ext w w' → OwnW w' w.heap.size v S.sh2.K → K v w') : callS Tryz.prog 106 #[] [.one .slc] K w := by
  refine f106_ok ?_
  unfold f106
  exact buildV_i (S.sh2.K.map (Value.int .u32)) rfl int_cells rfl (by omega) fun v w1 e1 o1 => hK v w1 e1 o1

theorem refBlock_s {s p : Sl} {st : S.Sha.St} {bs : List UInt8} {K : Sl → World → Prop} {w : World} (hs : Rd w s 1 (wl st)) (hp : Bts w p bs) (hl : bs.length = 64) (hK : ∀ v w', Ext w w' → OwnW w' w.heap.size v (S.sh2.comp st bs).list → K v w') :
    callS Tryz.prog 97 #[.slice s.a s.len s.cap, .slice p.a p.len p.cap] [.one .slc] K w := by
  refine f97_ok ?_
  unfold f97
  have hsl : s.len = 8 := by have := hs.len; simp [S.Sha.St.list] at this; omega
  refine refWords_s hp hl fun v1 w1 e1 o1 => ?_
  have hwl : (S.sh2.sched bs).length = 64 := by unfold S.Sha.sched; rw [S.Sha.ext_len, S.Sha.words_len]; rfl
  refine constants_s fun v2 w2 e2 o2 => ?_
  have e12 := e1.trans e2
  refine copyV_i (hs.ext e12) int_one (by omega) fun v3 w3 e3 o3 => ?_
  have e13 := e12.trans e3
  have hl1 := OwnW.len o1
  have hl2 := OwnW.len o2
  refine loop_i (fun (x : Sl × Int) w' => ∃ i : Nat, i ≤ 64 ∧ x.2 = i ∧ Ext w3 w' ∧ OwnW w' w.heap.size x.1 (S.sh2.rounds st (S.sh2.sched bs) i).list) (fun x _ => 64 - x.2.toNat) ⟨0, by omega, rfl, Fr.refl _ _, o3.base e12.size⟩ ?_
  rintro ⟨v, i'⟩ w4 again ⟨i, hi, hxi, e4, o4⟩ hag
  dsimp only at hxi o4 ⊢
  subst hxi
  have hvl : v.len = 8 := OwnW.len o4
  obtain ⟨a, ha⟩ := o4.rd.some (by omega)
  refine cond_i (fun hlt => ?_) (fun hge => ?_)
  · have hi' : i < 64 := by simp at hlt; omega
    have hstep : S.sh2.rounds st (S.sh2.sched bs) (i + 1) = S.sh2.step (S.sh2.rounds st (S.sh2.sched bs) i) (S.sh2.K.getD i 0) ((S.sh2.sched bs).getD i 0) := rfl
    generalize S.sh2.rounds st (S.sh2.sched bs) i = r at o4 hstep
    obtain ⟨a1, ha1⟩ := o1.rd.some (by omega)
    obtain ⟨a2, ha2⟩ := o2.rd.some (by rw [hl2]; decide)
    have q : ∀ x, Ext w4 x → Rd x v 1 (wl r) := fun x hx => (o4.ext hx).rd
    refine ⟨fun x => Ext w4 x, Ext.drew _, ?_⟩
    refine elemQ_i (l := .int .u32) (x := r.e) ha q (by omega) (by omega) rfl ?_
    refine elemQ_i (l := .int .u32) (x := r.e) ha q (by omega) (by omega) rfl ?_
    refine elemQ_i (l := .int .u32) (x := r.e) ha q (by omega) (by omega) rfl ?_
    refine right_s (n := 6) (by omega) (by omega) fun w5 e5 => ?_
    have E5 := (Ext.drew w4).trans e5
    refine more_i E5 ?_
    refine right_s (n := 11) (by omega) (by omega) fun w6 e6 => ?_
    have E6 := E5.trans e6
    refine more_i E6 ?_
    refine right_s (n := 25) (by omega) (by omega) fun w7 e7 => ?_
    have E7 := (E6.trans e7).trans (Ext.drew _)
    refine ⟨fun x => Ext w4 x, E7, ?_⟩
    refine elemQ_i (l := .int .u32) (x := r.e) ha q (by omega) (by omega) rfl ?_
    refine elemQ_i (l := .int .u32) (x := r.f) ha q (by omega) (by omega) rfl ?_
    refine elemQ_i (l := .int .u32) (x := r.e) ha q (by omega) (by omega) rfl ?_
    refine elemQ_i (l := .int .u32) (x := r.g) ha q (by omega) (by omega) rfl ?_
    have E8 := E7.trans (Ext.drew _)
    refine ⟨fun x => Ext w4 x, E8, ?_⟩
    refine elemQ_i (l := .int .u32) (x := r.h) ha q (by omega) (by omega) rfl ?_
    refine elemQ_i (l := .int .u32) (x := S.sh2.K.getD i 0) ha2 (fun x hx => ((o2.ext e3).ext (e4.trans hx)).rd) (by omega) (by rw [hl2]; show (i : Int) < 64; omega) (wget (show i < S.sh2.K.length from hi')) ?_
    refine elemQ_i (l := .int .u32) (x := (S.sh2.sched bs).getD i 0) ha1 (fun x hx => ((o1.ext (e2.trans e3)).ext (e4.trans hx)).rd) (by omega) (by omega) (wget (by omega)) ?_
    have E9 := E8.trans (Ext.drew _)
    refine ⟨fun x => Ext w4 x, E9, ?_⟩
    refine elemQ_i (l := .int .u32) (x := r.a) ha q (by omega) (by omega) rfl ?_
    refine elemQ_i (l := .int .u32) (x := r.a) ha q (by omega) (by omega) rfl ?_
    refine elemQ_i (l := .int .u32) (x := r.a) ha q (by omega) (by omega) rfl ?_
    refine right_s (n := 2) (by omega) (by omega) fun w10 e10 => ?_
    have E10 := E9.trans e10
    refine more_i E10 ?_
    refine right_s (n := 13) (by omega) (by omega) fun w11 e11 => ?_
    have E11 := E10.trans e11
    refine more_i E11 ?_
    refine right_s (n := 22) (by omega) (by omega) fun w12 e12' => ?_
    have E12 := (E11.trans e12').trans (Ext.drew _)
    refine ⟨fun x => Ext w4 x, E12, ?_⟩
    refine elemQ_i (l := .int .u32) (x := r.a) ha q (by omega) (by omega) rfl ?_
    refine elemQ_i (l := .int .u32) (x := r.b) ha q (by omega) (by omega) rfl ?_
    refine elemQ_i (l := .int .u32) (x := r.a) ha q (by omega) (by omega) rfl ?_
    refine elemQ_i (l := .int .u32) (x := r.c) ha q (by omega) (by omega) rfl ?_
    refine elemQ_i (l := .int .u32) (x := r.b) ha q (by omega) (by omega) rfl ?_
    refine elemQ_i (l := .int .u32) (x := r.c) ha q (by omega) (by omega) rfl ?_
    have E13 := E12.trans (Ext.drew _)
    refine ⟨fun x => Ext w4 x, E13, ?_⟩
    refine elemQ_i (l := .int .u32) (x := r.a) ha q (by omega) (by omega) rfl ?_
    refine elemQ_i (l := .int .u32) (x := r.b) ha q (by omega) (by omega) rfl ?_
    refine elemQ_i (l := .int .u32) (x := r.c) ha q (by omega) (by omega) rfl ?_
    refine elemQ_i (l := .int .u32) (x := r.d) ha q (by omega) (by omega) rfl ?_
    refine elemQ_i (l := .int .u32) (x := r.e) ha q (by omega) (by omega) rfl ?_
    refine elemQ_i (l := .int .u32) (x := r.f) ha q (by omega) (by omega) rfl ?_
    refine elemQ_i (l := .int .u32) (x := r.g) ha q (by omega) (by omega) rfl ?_
    have hb := S.add_assoc32 (S.sh2.tt r (S.sh2.K.getD i 0) ((S.sh2.sched bs).getD i 0)) (S.sh2.S0 r.a) (S.sh2.maj r.a r.b r.c)
    refine buildV_i [.int .u32 (S.sh2.add (S.sh2.add (S.sh2.tt r (S.sh2.K.getD i 0) ((S.sh2.sched bs).getD i 0)) (S.sh2.S0 r.a)) (S.sh2.maj r.a r.b r.c)), .int .u32 r.a, .int .u32 r.b, .int .u32 r.c, .int .u32 (S.sh2.add r.d (S.sh2.tt r (S.sh2.K.getD i 0) ((S.sh2.sched bs).getD i 0))), .int .u32 r.e, .int .u32 r.f, .int .u32 r.g] rfl (by simp [Value.cells]) rfl (by omega) fun v8 w8 e8 o8 => ?_
    rw [hb] at o8
    have E8' := E13.trans e8
    refine hag _ w8 ⟨i + 1, by omega, ?_, e4.trans E8', ?_⟩ ?_
    · simp only [wrap_i64 (x := (i : Int) + 1) (by omega) (by omega)]; omega
    · rw [hstep]; exact o8.base ((e13.trans e4).trans E13).size
    · simp only [wrap_i64 (x := (i : Int) + 1) (by omega) (by omega)]; omega
  · have hi64 : i = 64 := by simp at hge; omega
    subst hi64
    have hcomp : S.sh2.comp st bs = S.sh2.plus st (S.sh2.rounds st (S.sh2.sched bs) 64) := rfl
    clear hag hge
    generalize S.sh2.rounds st (S.sh2.sched bs) 64 = r at o4 hcomp
    have e4' := e13.trans e4
    obtain ⟨a0, ha0⟩ := hs.some (by omega)
    refine loop_i (fun (x : Sl × Int) w' => ∃ i : Nat, i ≤ 8 ∧ x.2 = i ∧ Ext w4 w' ∧ OwnW w' w4.heap.size x.1 ((S.sh2.plus st r).list.take i)) (fun x _ => 8 - x.2.toNat) ⟨0, by omega, rfl, Fr.refl _ _, Own.nilSl _ _ _⟩ ?_
    rintro ⟨u, i'⟩ w5 again2 ⟨i, hi, hxi, e5, o5⟩ hag
    dsimp only at hxi o5 ⊢
    subst hxi
    refine cond_i (fun hlt => ?_) (fun hge => ?_)
    · have hi' : i < 8 := by simp at hlt; omega
      have hpl : (S.sh2.plus st r).list[i]? = some (S.sh2.add (st.list.getD i 0) (r.list.getD i 0)) := by
        have : i = 0 ∨ i = 1 ∨ i = 2 ∨ i = 3 ∨ i = 4 ∨ i = 5 ∨ i = 6 ∨ i = 7 := by omega
        rcases this with rfl | rfl | rfl | rfl | rfl | rfl | rfl | rfl <;> rfl
      refine ⟨fun x => Ext w5 x, Ext.drew _, ?_⟩
      refine elemQ_i (l := .int .u32) (x := st.list.getD i 0) ha0 (fun x hx => hs.ext ((e4'.trans e5).trans hx)) (by omega) (by omega) (wget (show i < st.list.length from hi')) ?_
      refine elemQ_i (l := .int .u32) (x := r.list.getD i 0) ha (fun x hx => (o4.ext (e5.trans hx)).rd) (by omega) (by omega) (wget (show i < r.list.length from hi')) ?_
      have o5' := o5.ext (Ext.drew w5)
      refine appendW_i _ o5' (by simp [S.Sha.St.list]; omega) (e5.trans (Ext.drew _)).size fun v6 w6 f6 o6 => ?_
      have e6 : Ext w4 w6 := Ext.own (e5.trans (Ext.drew _)) f6 fun i hi => (o5'.inB hi).1
      refine hag _ w6 ⟨i + 1, by omega, ?_, e6, ?_⟩ ?_
      · simp only [wrap_i64 (x := (i : Int) + 1) (by omega) (by omega)]; omega
      · rw [List.take_add_one, hpl]; exact o6
      · simp only [wrap_i64 (x := (i : Int) + 1) (by omega) (by omega)]; omega
    · have hi8 : i = 8 := by simp at hge; omega
      subst hi8
      refine hK u w5 (e4'.trans e5) ?_
      rw [hcomp]
      exact Own.base o5 e4'.size
end Go.Proofs.YteopoodhclljjaaGreatDoor

/-! Sum02f -/
namespace Go.Proofs.YteopoodhclljjaaGreatDoor
open Go Go.Eng

theorem gap2 (n : Nat) : S.sh2.gap n = (120 - (n + 1) % 64) % 64 := rfl
theorem padded_s {s : Sl} {bs : List UInt8} {K : Sl → World → Prop} {w : World} (hs : Bts w s bs) (hlen : bs.length ≤ 1000000000) (hK : ∀ v w', Ext w w' → OwnB w' w.heap.size v (S.sh2.padded bs) → K v w') :
    callS Tryz.prog 96 #[.slice s.a s.len s.cap] [.one .slc] K w := by
  refine f96_ok ?_
  unfold f96
  have hbl := Bts.len hs
  refine copyV_i hs bytes_one (by omega) fun v1 w1 e1 o1 => ?_
  refine append1_i (b := 128) (by decide) o1 (by omega) e1.size fun v2 w2 f2 o2 _ => ?_
  have e2 : Ext w w2 := Ext.own e1 f2 fun i hi => (Own.inB o1 hi).1
  refine loop_i (fun (x : Sl) w' => ∃ j : Nat, j ≤ S.sh2.gap bs.length ∧ Ext w w' ∧ OwnB w' w.heap.size x (bs ++ [128] ++ List.replicate j 0)) (fun x _ => bs.length + 1 + S.sh2.gap bs.length - x.len) ⟨0, by omega, e2, by simpa using o2⟩ ?_
  rintro v3 w3 again ⟨j, hj, e3, o3⟩ hag
  have hvl := OwnB.len o3
  simp only [List.length_append, List.length_cons, List.length_nil, List.length_replicate] at hvl
  have hg := gap2 bs.length
  have htm : Int.tmod (v3.len : Int) 64 = ((v3.len % 64 : Nat) : Int) := by rw [Int.tmod_eq_emod_of_nonneg (by omega)]; rfl
  rw [htm]
  refine cond_i (fun h => ?_) (fun h => ?_)
  · have hne : v3.len % 64 ≠ 56 := by simp at h; omega
    have hj' : j < S.sh2.gap bs.length := by omega
    refine append1_i (b := 0) (by decide) o3 (by simp; omega) e3.size fun v4 w4 f4 o4 _ => ?_
    have hv4 := OwnB.len o4
    simp only [List.length_append, List.length_cons, List.length_nil, List.length_replicate] at hv4
    refine hag _ w4 ⟨j + 1, by omega, Ext.own e3 f4 fun i hi => (o3.inB hi).1, ?_⟩ ?_
    · rw [List.replicate_succ', ← List.append_assoc]; exact o4
    · omega
  · have he : v3.len % 64 = 56 := by simp at h; omega
    have hj' : j = S.sh2.gap bs.length := by omega
    subst hj'
    rw [show (IntKind.wrap .u64 ((IntKind.wrap .u64 (s.len : Int)) * 8)) = ((8 * bs.length : Nat) : Int) by rw [wrap_u64 (x := (s.len : Int)) (by omega) (by omega), wrap_u64 (by omega) (by omega)]; omega]
    refine loop_i (fun (x : Sl × Int) w' => ∃ k : Nat, k ≤ 8 ∧ x.2 = (k : Int) - 1 ∧ Ext w w' ∧ OwnB w' w.heap.size x.1 (bs ++ [128] ++ List.replicate (S.sh2.gap bs.length) 0 ++ S.be (8 - k) (8 * bs.length / 256 ^ k))) (fun x _ => (x.2 + 1).toNat) ⟨8, by omega, by simp, e3, by simpa [S.be] using o3⟩ ?_
    rintro ⟨v4, i⟩ w4 again2 ⟨k, hk, hi, e4, o4⟩ hag2
    dsimp only at hi o4 ⊢
    subst hi
    refine cond_i (fun hlt => ?_) (fun hge => ?_)
    · have hk1 : 1 ≤ k := by simp at hlt; omega
      refine shr_i (by rw [wrap_i64 (by omega) (by omega)]; omega) ?_
      have hsh : shrI .u64 ((8 * bs.length : Nat) : Int) (IntKind.wrap .i64 (8 * ((k : Int) - 1))) = ((8 * bs.length / 256 ^ (k - 1) : Nat) : Int) := by
        rw [wrap_i64 (by omega) (by omega), shrI_lit _ _ _ (by show (8 * ((k : Int) - 1)).toNat ≤ 64; omega), show (8 * ((k : Int) - 1)).toNat = 8 * (k - 1) by omega, Int.pow_mul]
        simp
      rw [hsh]
      refine append1_i (UInt8.ofNat (8 * bs.length / 256 ^ (k - 1))) ?_ o4 (by simp [S.be_length]; omega) e4.size fun v5 w5 f5 o5 _ => ?_
      · rw [wrap_u8_mod]; simp
      · refine hag2 _ w5 ⟨k - 1, by omega, ?_, Ext.own e4 f5 fun i hi => (o4.inB hi).1, ?_⟩ ?_
        · simp only [wrap_i64 (x := (k : Int) - 1 - 1) (by omega) (by omega)]; omega
        · have hsft := S.be_shift (8 - k) (k - 1) (8 * bs.length)
          rw [show k - 1 + 1 = k by omega, show 8 - k + 1 = 8 - (k - 1) by omega] at hsft
          rw [hsft, ← List.append_assoc]; exact o5
        · simp only [wrap_i64 (x := (k : Int) - 1 - 1) (by omega) (by omega)]; omega
    · have hk0 : k = 0 := by simp at hge; omega
      subst hk0
      exact hK v4 w4 e4 (by simpa [S.Sha.padded, S.sh2] using o4)
end Go.Proofs.YteopoodhclljjaaGreatDoor

/-! Sum02g -/
namespace Go.S
open Go Go.Eng
def Sha.St.ok (s : Sha.St) : Prop := ∀ x ∈ s.list, 0 ≤ x ∧ x < 4294967296
theorem add_ok (a b : Int) : 0 ≤ sh2.add a b ∧ sh2.add a b < 4294967296 := by
  show 0 ≤ IntKind.wrap .u32 (a + b) ∧ IntKind.wrap .u32 (a + b) < 4294967296
  rw [wrap_u32_mod]; omega
theorem comp_ok (s : Sha.St) (bs : List UInt8) : (sh2.comp s bs).ok := by
  intro x hx
  unfold Sha.comp Sha.plus Sha.St.list at hx
  simp only [List.mem_cons, List.not_mem_nil, or_false] at hx
  rcases hx with rfl | rfl | rfl | rfl | rfl | rfl | rfl | rfl <;> exact add_ok _ _
theorem first_ok : sh2.first.ok := by unfold Sha.St.ok; decide
theorem fold_ok (s : Sha.St) (bs : List UInt8) (hs : s.ok) : ∀ n, (sh2.fold s bs n).ok
  | 0 => hs
  | n + 1 => comp_ok _ _
theorem padded_len (bs : List UInt8) : (sh2.padded bs).length % 64 = 0 := by
  have : (sh2.padded bs).length = bs.length + 1 + (120 - (bs.length + 1) % 64) % 64 + 8 := by
    simp only [Sha.padded, List.length_append, be_length, List.length_replicate, List.length_cons, List.length_nil]; rfl
  omega
end Go.S
namespace Go.Proofs.YteopoodhclljjaaGreatDoor
open Go Go.Eng
theorem byte_of {x : Int} {k : Nat} (h0 : 0 ≤ x) : IntKind.wrap .u8 (x / 256 ^ k) = ((UInt8.ofNat (x.toNat / 256 ^ k)).toNat : Int) := by
  obtain ⟨n, rfl⟩ : ∃ n : Nat, x = n := ⟨x.toNat, by omega⟩
  rw [wrap_u8_mod]; simp
theorem refSum_s {s : Sl} {bs : List UInt8} {K : Sl → World → Prop} {w : World} (hs : Bts w s bs) (hlen : bs.length ≤ 1000000000) (hK : ∀ v w', Ext w w' → OwnB w' w.heap.size v (S.sh2.sum bs) → K v w') :
    callS Tryz.prog 79 #[.slice s.a s.len s.cap] [.one .slc] K w := by
  refine f79_ok ?_
  unfold f79
  refine buildV_i (wl S.sh2.first) rfl int_cells rfl (by omega) fun v1 w1 e1 o1 => ?_
  refine padded_s (hs.ext e1) hlen fun p w2 e2 o2 => ?_
  have hpm := S.padded_len bs
  have hpl := OwnB.len o2
  have hpb : (S.sh2.padded bs).length ≤ 1000000200 := by
    simp only [S.Sha.padded, List.length_append, S.be_length, List.length_replicate, List.length_cons, List.length_nil]
    have := gap2 bs.length
    have h8 : S.sh2.lb = 8 := rfl
    omega
  have hsum : S.sh2.sum bs = S.sh2.out (S.sh2.fold S.sh2.first (S.sh2.padded bs) ((S.sh2.padded bs).length / 64)) := rfl
  generalize S.sh2.padded bs = ps at o2 hpm hpl hpb hsum
  have e12 := e1.trans e2
  have hpcap := o2.cap
  refine loop_i (fun (x : Sl × Int) w' => ∃ n : Nat, n ≤ ps.length / 64 ∧ x.2 = 64 * (n : Int) ∧ Ext w2 w' ∧ OwnW w' w.heap.size x.1 (S.sh2.fold S.sh2.first ps n).list) (fun x _ => ps.length - x.2.toNat) ⟨0, by omega, rfl, Fr.refl _ _, (Own.ext o1 e2).base (Nat.le_refl _)⟩ ?_
  rintro ⟨v, i'⟩ w3 again ⟨n, hn, hi, e3, o3⟩ hag
  dsimp only at hi o3 ⊢
  subst hi
  have hvl : v.len = 8 := OwnW.len o3
  refine cond_i (fun hlt => ?_) (fun hge => ?_)
  · have hlt' : 64 * n < ps.length := by simp at hlt; omega
    rw [wrap_i64 (x := 64 * (n : Int) + 64) (by omega) (by omega)]
    refine sl2_i (by omega) (by omega) (by omega) ?_
    have hc := Bts.cut (o2.rd.ext e3) (l := (64 * (n : Int)).toNat) (hi := (64 * (n : Int) + 64).toNat) (by omega) (by omega)
    rw [show (64 * (n : Int)).toNat = 64 * n by omega, show (64 * (n : Int) + 64).toNat = 64 * n + 64 by omega, show 64 * n + 64 - 64 * n = 64 by omega] at hc
    rw [show (64 * (n : Int)).toNat = 64 * n by omega, show (64 * (n : Int) + 64).toNat = 64 * n + 64 by omega]
    refine refBlock_s o3.rd hc (by simp; omega) fun v4 w4 e4 o4 => ?_
    refine hag _ w4 ⟨n + 1, by omega, ?_, e3.trans e4, o4.base (e12.trans e3).size⟩ ?_
    · simp only; omega
    · simp only; omega
  · have hn' : n = ps.length / 64 := by simp at hge; omega
    subst hn'
    have hok := S.fold_ok S.sh2.first ps S.first_ok (ps.length / 64)
    clear hag hge
    generalize S.sh2.fold S.sh2.first ps (ps.length / 64) = st at o3 hok hsum
    have e13 := e12.trans e3
    have hl8 : st.list.length = 8 := rfl
    refine loop_i (fun (x : Sl × Int) w' => ∃ i : Nat, i ≤ 8 ∧ x.2 = i ∧ Ext w3 w' ∧ OwnB w' w3.heap.size x.1 ((st.list.take i).flatMap fun x => S.be 4 x.toNat)) (fun x _ => 8 - x.2.toNat) ⟨0, by omega, rfl, Fr.refl _ _, Own.nilSl _ _ _⟩ ?_
    rintro ⟨u, i'⟩ w4 again2 ⟨i, hi, hxi, e4, o4⟩ hag
    dsimp only at hxi o4 ⊢
    subst hxi
    refine cond_i (fun hlt => ?_) (fun hge => ?_)
    · have hi' : i < st.list.length := by simp at hlt; exact (by omega : i < 8)
      have hx : st.list[i]? = some (st.list.getD i 0) := by simp [hi']
      have hxo := hok _ (List.mem_of_getElem? hx)
      generalize st.list.getD i 0 = x at hx hxo
      have hpre : ((st.list.take i).flatMap fun x => S.be 4 x.toNat).length = 4 * i := by
        have : ∀ l : List Int, (l.flatMap fun x => S.be 4 x.toNat).length = 4 * l.length := fun l => by
          induction l with
          | nil => rfl
          | cons a l ih => simp only [List.flatMap_cons, List.length_append, S.be_length, List.length_cons, ih]; omega
        rw [this]; simp; omega
      have htk : (st.list.take (i + 1)).flatMap (fun x => S.be 4 x.toNat) = (st.list.take i).flatMap (fun x => S.be 4 x.toNat) ++ S.be 4 x.toNat := by rw [List.take_add_one, hx, List.flatMap_append]; simp
      generalize (st.list.take i).flatMap (fun x => S.be 4 x.toNat) = pr at o4 hpre htk
      refine loop_i (fun (y : Sl × Int) w' => ∃ k : Nat, k ≤ 4 ∧ y.2 = (k : Int) - 1 ∧ Ext w3 w' ∧ OwnB w' w3.heap.size y.1 (pr ++ S.be (4 - k) (x.toNat / 256 ^ k))) (fun y _ => (y.2 + 1).toNat) ⟨4, by omega, by simp, e4, by simpa [S.be] using o4⟩ ?_
      rintro ⟨y, j⟩ w5 again3 ⟨k, hk, hj, e5, o5⟩ hag3
      dsimp only at hj o5 ⊢
      subst hj
      refine cond_i (fun hlt2 => ?_) (fun hge2 => ?_)
      · have hk1 : 1 ≤ k := by simp at hlt2; omega
        refine elem_i (l := .int .u32) (x := x) ((o3.ext e5).rd) (by omega) (by omega) (by simp [hx, Lf.enc]) ?_
        refine shr_i (by rw [wrap_i64 (by omega) (by omega)]; omega) ?_
        have hsh : shrI .u32 x (IntKind.wrap .i64 (8 * ((k : Int) - 1))) = x / 256 ^ (k - 1) := by
          rw [wrap_i64 (by omega) (by omega), shrI_lit _ _ _ (by show (8 * ((k : Int) - 1)).toNat ≤ 32; omega), show (8 * ((k : Int) - 1)).toNat = 8 * (k - 1) by omega, Int.pow_mul]
          rfl
        rw [hsh]
        refine append1_i (UInt8.ofNat (x.toNat / 256 ^ (k - 1))) (byte_of hxo.1) o5 (by simp [S.be_length]; omega) e5.size fun y6 w6 f6 o6 _ => ?_
        refine hag3 _ w6 ⟨k - 1, by omega, ?_, Ext.own e5 f6 fun i hi => (o5.inB hi).1, ?_⟩ ?_
        · simp only [wrap_i64 (x := (k : Int) - 1 - 1) (by omega) (by omega)]; omega
        · have hsft := S.be_shift (4 - k) (k - 1) x.toNat
          rw [show k - 1 + 1 = k by omega, show 4 - k + 1 = 4 - (k - 1) by omega] at hsft
          rw [hsft, ← List.append_assoc]; exact o6
        · simp only [wrap_i64 (x := (k : Int) - 1 - 1) (by omega) (by omega)]; omega
      · have hk0 : k = 0 := by simp at hge2; omega
        subst hk0
        refine hag _ w5 ⟨i + 1, by omega, ?_, e5, ?_⟩ ?_
        · simp only [wrap_i64 (x := (i : Int) + 1) (by omega) (by omega)]; omega
        · rw [htk]; simpa using o5
        · simp only [wrap_i64 (x := (i : Int) + 1) (by omega) (by omega)]; omega
    · have hi8 : i = 8 := by simp at hge; omega
      subst hi8
      rw [List.take_of_length_le (Nat.le_of_eq hl8)] at o4
      refine hK u w4 (e13.trans e4) ?_
      rw [hsum]
      exact Own.base o4 e13.size
end Go.Proofs.YteopoodhclljjaaGreatDoor

/-! Sum02h -/
namespace Go.Proofs.YteopoodhclljjaaGreatDoor
open Go Go.Eng

/-- The package's tables. -/
def Tabs (w : World) : Prop := Var w 1 (S.sh2.H.map (Value.int .u32)) ∧ Var w 3 (S.sh2.K.map (Value.int .u32))
theorem Tabs.ext {w w' : World} (h : Tabs w) (e : Ext w w') : Tabs w' := ⟨h.1.ext e, h.2.ext e⟩
theorem Tabs.fr {S : Nat → Prop} {w w' : World} (h : Tabs w) (e : Fr S w w') (h0 : ¬ S 1) (h1 : ¬ S 3) : Tabs w' := ⟨h.1.fr e h0, h.2.fr e h1⟩
/-- A sum under way, in block g, its rest r: all bytes so far are 'all'. -/
structure HashAt (w : World) (B g : Nat) (r : Sl) (all : List UInt8) : Prop where
  base : 4 ≤ B ∧ B ≤ g
  var : Var w g (wl (S.sh2.fold S.sh2.first all (all.length / 64)) ++ [.slice r.a r.len r.cap, .int .u64 (all.length : Int)])
  own : OwnB w B r (all.drop (64 * (all.length / 64)))
  apart : ¬ r.inB g
theorem HashAt.ext {w w' : World} {B g : Nat} {r : Sl} {all : List UInt8} (h : HashAt w B g r all) (e : Ext w w') : HashAt w' B g r all := ⟨h.base, h.var.ext e, h.own.ext e, h.apart⟩
theorem HashAt.fr {S : Nat → Prop} {w w' : World} {B g : Nat} {r : Sl} {all : List UInt8} (h : HashAt w B g r all) (e : Fr S w w') (h1 : ¬ S g) (h2 : ∀ k, r.inB k → ¬ S k) : HashAt w' B g r all :=
  ⟨h.base, h.var.fr e h1, h.own.fr e (fun a ha => h2 _ ⟨a, ha, rfl⟩), h.apart⟩
theorem Sl.nil_inB (k : Nat) : ¬ Sl.nil.inB k := fun ⟨a, h, _⟩ => by cases h

theorem new_s {K : Option Addr → World → Prop} {w : World} (ht : Tabs w) (hK : ∀ g w', Ext w w' → w.heap.size ≤ g → HashAt w' w.heap.size g Sl.nil [] → K (some (at_ g 0)) w') : callS Tryz.prog 93 #[] [.one .ptr] K w := by
  refine f93_ok ?_
  unfold f93
  refine ld8_i (g := 1) (s := S.sh2.first) (tl := []) ht.1 ?_
  refine box_i fun g w1 e1 hg v1 => ?_
  exact hK g w1 e1 hg ⟨⟨by have := ht.1.lt; have := ht.2.lt; omega, hg⟩, v1, Own.nilSl _ _ _, Sl.nil_inB _⟩
end Go.Proofs.YteopoodhclljjaaGreatDoor

/-! Sum02i -/
namespace Go.S
/-- The state goes on over more bytes. -/
theorem fold_more (s : Sha.St) (all bs : List UInt8) (n : Nat) : sh2.fold s (all ++ bs) (all.length / 64 + n) = sh2.fold (sh2.fold s all (all.length / 64)) (all.drop (64 * (all.length / 64)) ++ bs) n := by
  rw [Sha.fold_add, Sha.fold_append _ _ _ _ _ (show sh2.blk * (all.length / 64) ≤ all.length by show 64 * (all.length / 64) ≤ all.length; omega)]
  congr 1
  show (all ++ bs).drop (64 * (all.length / 64)) = _
  rw [List.drop_append_of_le_length (by omega)]
end Go.S
namespace Go.Proofs.YteopoodhclljjaaGreatDoor
open Go Go.Eng

theorem write_s {B g : Nat} {r p : Sl} {all bs : List UInt8} {K : World → Prop} {w : World} (h : HashAt w B g r all) (ht : Tabs w) (hp : Bts w p bs) (hsep : bs ≠ [] → ∀ a, p.a = some a → ¬ (a.block = g ∨ r.inB a.block)) (hlen : all.length + bs.length ≤ 1000000000)
    (hK : ∀ r' w', Fr (fun k => k = g ∨ r.inB k) w w' → HashAt w' B g r' (all ++ bs) → (∀ k, r'.inB k → w.heap.size ≤ k) → K w') :
    callS Tryz.prog 94 #[.pointer (some (at_ g 0)), .slice p.a p.len p.cap] [] K w := by
  refine f94_ok ?_
  unfold f94
  have hbl := Bts.len hp
  have hr0 : ∀ k, r.inB k → 4 ≤ k := fun k hk => by have := (h.own.inB hk).1; have := h.base.1; omega
  have hB := h.base
  have hgl := h.var.lt
  refine nil_i rfl ?_
  refine ld1_i (l := .int .u64) (o := 9) (all.length : Int) h.var rfl ?_
  refine nil_i rfl ?_
  refine st1_i (o := 9) h.var (by simp [S.Sha.St.list]) rfl fun w1 f1 v1 => ?_
  rw [wrap_u64 (x := (p.len : Int)) (by omega) (by omega), wrap_u64 (x := (all.length : Int) + (p.len : Int)) (by omega) (by omega)] at v1
  have v1' : Var w1 g (wl (S.sh2.fold S.sh2.first all (all.length / 64)) ++ [.slice r.a r.len r.cap, .int .u64 ((all.length : Int) + (p.len : Int))]) := v1
  have o1 : OwnB w1 B r (all.drop (64 * (all.length / 64))) := h.own.fr f1 fun a ha hk => h.apart ⟨a, ha, hk⟩
  have hp1 : Bts w1 p bs := rd_fr_ne hp f1 fun hne a ha hk => hsep (by simpa using hne) a ha (.inl hk)
  refine nil_i rfl ?_
  refine ld1_i (l := .slc) (o := 8) r v1' rfl ?_
  refine appendB_i o1 hp1 (by simp; omega) (by have := f1.size; omega) fun t w2 f2 o2 hin => ?_
  have v2 := v1'.fr f2 h.apart
  refine nil_i rfl ?_
  refine st1_i (o := 8) v2 (by simp [S.Sha.St.list]) rfl fun w3 f3 v3 => ?_
  have htg : ¬ t.inB g := fun hk => by
    rcases hin g hk with h1 | h1
    · exact h.apart h1
    · have := f1.size; omega
  have o3 : OwnB w3 B t (all.drop (64 * (all.length / 64)) ++ bs) := o2.fr f3 fun a ha hk => htg ⟨a, ha, hk⟩
  have f13 : Fr (fun k => k = g ∨ r.inB k) w w3 := ((f1.mono fun k _ hk => .inl hk).trans f2 fun _ _ hk => .inr hk).trans f3 fun _ _ hk => .inl hk
  have ht3 : Tabs w3 := ht.fr f13 (by rintro (h1 | h1); omega; have := hr0 _ h1; omega) (by rintro (h1 | h1); omega; have := hr0 _ h1; omega)
  have hfold := S.fold_more S.sh2.first all bs
  generalize hst : S.sh2.fold S.sh2.first all (all.length / 64) = st at v3 hfold
  have hrl : (all.drop (64 * (all.length / 64))).length < 64 := by simp; omega
  have hrl2 : (all.drop (64 * (all.length / 64))).length = all.length - 64 * (all.length / 64) := by simp
  generalize hrest : all.drop (64 * (all.length / 64)) = rest at o3 hfold hrl hrl2
  have hdl : (rest ++ bs).length = rest.length + bs.length := by simp
  refine loop_i (fun (_ : Unit) w' => ∃ (n : Nat) (u : Sl), 64 * n ≤ (rest ++ bs).length ∧ Fr (fun k => k = g) w3 w' ∧ Var w' g (wl (S.sh2.fold st (rest ++ bs) n) ++ [.slice u.a u.len u.cap, .int .u64 ((all.length : Int) + (p.len : Int))]) ∧ Bts w' u ((rest ++ bs).drop (64 * n)) ∧ (∀ k, u.inB k → t.inB k)) (fun _ w' => (match w'.cell? (at_ g 8) with | some (.slice _ n _) => n | _ => 0)) ⟨0, t, by omega, Fr.refl _ _, v3, o3.rd, fun k hk => hk⟩ ?_
  rintro _ w4 again ⟨n, u, hn, f4, v4, b4, hut⟩ hag
  have hul := Bts.len b4
  have hcell : w4.cell? (at_ g 8) = some (.slice u.a u.len u.cap) := v4.cell rfl
  have hug : ¬ u.inB g := fun hk => htg (hut g hk)
  refine nil_i rfl ?_
  refine ld1_i (l := .slc) (o := 8) u v4 rfl ?_
  refine cond_i (fun hge => ?_) (fun hlt => ?_)
  · have h64 : 64 ≤ u.len := by simp at hge; omega
    refine nil_i rfl ?_
    refine ld1_i (l := .slc) (o := 8) u v4 rfl ?_
    refine slHi_i (by omega) (by have := b4.cap; omega) ?_
    have hc : Bts w4 (u.cut 1 0 (64 : Int).toNat) (((rest ++ bs).drop (64 * n)).take 64) := by
      have := Bts.cut b4 (l := 0) (hi := 64) (by omega) (by omega); simpa using this
    have ht4 : Tabs w4 := ht3.fr f4 (by omega) (by omega)
    refine take_s v4 hc (by simp at hul ⊢; omega) ht4.2 fun w5 f5 v5 => ?_
    have hfs : S.sh2.comp (S.sh2.fold st (rest ++ bs) n) (((rest ++ bs).drop (64 * n)).take 64) = S.sh2.fold st (rest ++ bs) (n + 1) := rfl
    rw [hfs] at v5
    refine nil_i rfl ?_
    refine ld1_i (l := .slc) (o := 8) u v5 rfl ?_
    refine slLo_i (by omega) (by omega) ?_
    refine nil_i rfl ?_
    refine st1_i (o := 8) v5 (by simp [S.Sha.St.list]) rfl fun w6 f6 v6 => ?_
    have b5 : Bts w5 u ((rest ++ bs).drop (64 * n)) := b4.fr f5 fun a ha hk => hug ⟨a, ha, hk⟩
    have b6 : Bts w6 u ((rest ++ bs).drop (64 * n)) := b5.fr f6 fun a ha hk => hug ⟨a, ha, hk⟩
    have hc6 : Bts w6 (u.cut 1 (64 : Int).toNat u.len) ((rest ++ bs).drop (64 * (n + 1))) := by
      have := Bts.cut b6 (l := 64) (hi := u.len) (by omega) (by omega)
      rw [List.drop_drop, List.take_of_length_le (by simp at hul ⊢; omega)] at this
      rw [show 64 * (n + 1) = 64 * n + 64 by omega]; exact this
    refine hag () w6 ⟨n + 1, u.cut 1 (64 : Int).toNat u.len, by simp at hul; simp; omega, (f4.trans' f5).trans' f6, v6, hc6, fun k hk => ?_⟩ ?_
    · obtain ⟨a, ha, rfl⟩ := hk
      unfold Sl.cut at ha
      simp only at ha
      split at ha
      · exact hut _ ⟨a, ha, rfl⟩
      · cases hua : u.a with
        | none => rw [hua] at ha; cases ha
        | some b => rw [hua] at ha; simp at ha; subst ha; rw [add_block]; exact hut _ ⟨b, hua, rfl⟩
    · have hcell6 : w6.cell? (at_ g 8) = some (.slice (u.cut 1 (64 : Int).toNat u.len).a (u.cut 1 (64 : Int).toNat u.len).len (u.cut 1 (64 : Int).toNat u.len).cap) := v6.cell rfl
      rw [hcell, hcell6]
      simp only [Sl.cut]
      omega
  · have h64 : u.len < 64 := by simp at hlt; omega
    refine nil_i rfl ?_
    refine ld1_i (l := .slc) (o := 8) u v4 rfl ?_
    refine clone_s b4 (by simp at hul ⊢; omega) fun r' w5 e5 o5 => ?_
    have v5 := v4.ext e5
    refine nil_i rfl ?_
    refine st1_i (o := 8) v5 (by simp [S.Sha.St.list]) rfl fun w6 f6 v6 => ?_
    have hsz : w.heap.size ≤ w4.heap.size := Nat.le_trans f13.size f4.size
    have hr'g : ¬ r'.inB g := fun hk => by have := (o5.inB hk).1; omega
    have hdn : (all ++ bs).length / 64 = all.length / 64 + n := by simp at hul; simp; omega
    refine hK r' w6 (((f13.trans f4 fun _ _ hk => .inl hk).then e5).trans f6 fun _ _ hk => .inl hk) ⟨hB, ?_, ?_, hr'g⟩ fun k hk => ?_
    · rw [hdn, hfold n, List.length_append, hbl.symm]
      exact v6
    · have := o5.base (B' := B) (by omega)
      have o6 : OwnB w6 B r' ((rest ++ bs).drop (64 * n)) := this.fr f6 fun a ha hk => hr'g ⟨a, ha, hk⟩
      have hd : (all ++ bs).drop (64 * ((all ++ bs).length / 64)) = (rest ++ bs).drop (64 * n) := by
        rw [hdn, Nat.mul_add, ← List.drop_drop, List.drop_append_of_le_length (by omega), hrest]
      rw [hd]; exact o6
    · have := (o5.inB hk).1; omega
end Go.Proofs.YteopoodhclljjaaGreatDoor

/-! Sum02l -/
namespace Go.S
open Go Go.Eng
/-- What stands behind a text. -/
def tail2 (n : Nat) : List UInt8 := [128] ++ List.replicate (sh2.gap n) 0 ++ be 8 (8 * n)
theorem padded_tail (all : List UInt8) : sh2.padded all = all ++ tail2 all.length := by simp [Sha.padded, tail2, sh2]
theorem sum_rest (all : List UInt8) : sh2.sum all = sh2.out (sh2.fold (sh2.fold sh2.first all (all.length / 64)) (all.drop (64 * (all.length / 64)) ++ tail2 all.length) ((all.drop (64 * (all.length / 64)) ++ tail2 all.length).length / 64)) := by
  have hl : (all.drop (64 * (all.length / 64)) ++ tail2 all.length).length = (sh2.padded all).length - 64 * (all.length / 64) := by
    rw [padded_tail, List.length_append, List.length_append, List.length_drop]; omega
  have hp : (sh2.padded all).length = all.length + (tail2 all.length).length := by rw [padded_tail, List.length_append]
  rw [← fold_more, ← padded_tail, hl]
  show sh2.out (sh2.fold sh2.first (sh2.padded all) ((sh2.padded all).length / 64)) = _
  congr 2
  omega
end Go.S
namespace Go.Proofs.YteopoodhclljjaaGreatDoor
open Go Go.Eng

/-- A sum's end under way. -/
structure EndAt (w : World) (B z : Nat) (t : Sl) (st : S.Sha.St) (bs : List UInt8) : Prop where
  base : B ≤ z
  var : Var w z (wl st ++ [.slice t.a t.len t.cap, .int .u64 0])
  own : OwnB w B t bs
  apart : ¬ t.inB z
theorem EndAt.ext {w w' : World} {B z : Nat} {t : Sl} {st : S.Sha.St} {bs : List UInt8} (h : EndAt w B z t st bs) (e : Ext w w') : EndAt w' B z t st bs := ⟨h.base, h.var.ext e, h.own.ext e, h.apart⟩
theorem EndAt.fr {T : Nat → Prop} {w w' : World} {B z : Nat} {t : Sl} {st : S.Sha.St} {bs : List UInt8} (h : EndAt w B z t st bs) (e : Fr T w w') (h1 : ¬ T z) (h2 : ∀ k, t.inB k → ¬ T k) : EndAt w' B z t st bs :=
  ⟨h.base, h.var.fr e h1, h.own.fr e (fun a ha => h2 _ ⟨a, ha, rfl⟩), h.apart⟩
/-- One byte more. -/
theorem end_push {w w1 : World} {B z : Nat} {t x : Sl} {st : S.Sha.St} {bs : List UInt8} {n : Int} (b : UInt8) (hn : n = (b.toNat : Int)) (h : EndAt w B z t st bs) (hl : bs.length ≤ 1000000000) (hB : B ≤ w.heap.size) {K : World → Prop} (hx : Ext w w1) (hb : Bts w1 x [b])
    (hK : ∀ t' w', Fr (fun k => B ≤ k) w w' → EndAt w' B z t' st (bs ++ [b]) → K w') :
    semS Tryz.prog (Builtin.append_ #[22, 22] 22 #[.slice t.a t.len t.cap, .slice x.a x.len x.cap]) (.one .slc) (fun r w => semU Tryz.prog (Instr.storeAt 22 (.pointer (some (at_ z 8))) (.slice r.a r.len r.cap)) K w) w1 := by
  have h1 := h.ext hx
  refine appendB_i h1.own hb (by simp; omega) (Nat.le_trans hB hx.size) fun t' w2 f2 o2 hin => ?_
  have v2 := h1.var.fr f2 h.apart
  have hz : ¬ t'.inB z := fun hk => by
    rcases hin z hk with h3 | h3
    · exact h.apart h3
    · have := h1.var.lt; omega
  refine st1_i (o := 8) v2 (by simp [S.Sha.St.list]) rfl fun w3 f3 v3 => ?_
  refine hK t' w3 ?_ ⟨h.base, v3, o2.fr f3 fun a ha hk => hz ⟨a, ha, hk⟩, hz⟩
  refine (hx.fr.trans f2 fun k _ hk => (h1.own.inB hk).1).trans f3 fun k _ hk => ?_
  have := h.base; omega
theorem Fr.ext_base {B : Nat} {a b c : World} (h : Ext a b) (k : Fr (fun k => B ≤ k) b c) (hB : a.heap.size ≤ B) : Ext a c := Ext.own h k fun i hi => Nat.le_trans hB hi

theorem sumOut_s {z : Nat} {st : S.Sha.St} {tl : List Value} {t : TypeId} [AggTy Tryz.prog t 8] (hok : st.ok) {K : Sl → World → Prop} {w : World}
    (hK : ∀ v w', Ext w w' → OwnB w' w.heap.size v (S.sh2.out st) → K v w') :
    loopS (σ := Sl × Int) (fun s70 w again71 =>
            cond (decide (s70.2 < 8))
              (semS Tryz.prog (Instr.index 171 (.agg #[(.int .u32 st.a), (.int .u32 st.b), (.int .u32 st.c), (.int .u32 st.d), (.int .u32 st.e), (.int .u32 st.f), (.int .u32 st.g), (.int .u32 st.h)]) (.int .i64 s70.2)) (.one (.int .u32)) (fun x72 w =>
              loopS (σ := Sl × Int) (fun s73 w again74 =>
                cond (decide (s73.2 ≥ 0))
                  (semS Tryz.prog (binS .shr 159 (.tmp 69) (.tmp 70) (.int .u32 x72) (.int .i64 s73.2)) (.one (.int .u32)) (fun x75 w =>
                  semS Tryz.prog (Instr.buildSlice 22 1 #[(0, (.int .u8 (IntKind.wrap .u8 x75)))]) (.one .slc) (fun x76 w =>
                  semS Tryz.prog (Builtin.append_ #[22, 22] 22 #[(.slice s73.1.a s73.1.len s73.1.cap), (.slice x76.a x76.len x76.cap)]) (.one .slc) (fun r77 w =>
                  again74 (r77, IntKind.wrap .i64 (s73.2 - 8)) w) w) w) w)
                  (again71 (s73.1, IntKind.wrap .i64 (s70.2 + 1)) w)) (s70.1, 24) w) w)
              (K s70.1 w)) (⟨none, 0, 0⟩, 0) w := by
  have hl8 : st.list.length = 8 := rfl
  refine loop_i (fun (x : Sl × Int) w' => ∃ i : Nat, i ≤ 8 ∧ x.2 = i ∧ Ext w w' ∧ OwnB w' w.heap.size x.1 ((st.list.take i).flatMap fun x => S.be 4 x.toNat)) (fun x _ => 8 - x.2.toNat) ⟨0, by omega, rfl, Fr.refl _ _, Own.nilSl _ _ _⟩ ?_
  rintro ⟨u, i'⟩ w4 again2 ⟨i, hi, hxi, e4, o4⟩ hag
  dsimp only at hxi o4 ⊢
  subst hxi
  refine cond_i (fun hlt => ?_) (fun hge => ?_)
  · have hi' : i < st.list.length := by simp at hlt; exact (by omega : i < 8)
    have hx : st.list[i]? = some (st.list.getD i 0) := by simp [hi']
    have hxo := hok _ (List.mem_of_getElem? hx)
    generalize st.list.getD i 0 = x at hx hxo
    have hpre : ((st.list.take i).flatMap fun x => S.be 4 x.toNat).length = 4 * i := by
      have : ∀ l : List Int, (l.flatMap fun x => S.be 4 x.toNat).length = 4 * l.length := fun l => by
        induction l with
        | nil => rfl
        | cons a l ih => simp only [List.flatMap_cons, List.length_append, S.be_length, List.length_cons, ih]; omega
      rw [this]; simp; omega
    have htk : (st.list.take (i + 1)).flatMap (fun x => S.be 4 x.toNat) = (st.list.take i).flatMap (fun x => S.be 4 x.toNat) ++ S.be 4 x.toNat := by rw [List.take_add_one, hx, List.flatMap_append]; simp
    generalize (st.list.take i).flatMap (fun x => S.be 4 x.toNat) = pr at o4 hpre htk
    refine ixL_i (cs := wl st) (l := .int .u32) (x := x) (by omega) (by omega) (by simp [hx, Lf.enc]) ?_
    refine loop_i (fun (y : Sl × Int) w' => ∃ k : Nat, k ≤ 4 ∧ y.2 = 8 * ((k : Int) - 1) ∧ Ext w w' ∧ OwnB w' w.heap.size y.1 (pr ++ S.be (4 - k) (x.toNat / 256 ^ k))) (fun y _ => (y.2 + 8).toNat) ⟨4, by omega, by simp, e4, by simpa [S.be] using o4⟩ ?_
    rintro ⟨y, j⟩ w5 again3 ⟨k, hk, hj, e5, o5⟩ hag3
    dsimp only at hj o5 ⊢
    subst hj
    refine cond_i (fun hlt2 => ?_) (fun hge2 => ?_)
    · have hk1 : 1 ≤ k := by simp at hlt2; omega
      refine shr_i (by omega) ?_
      have hsh : shrI .u32 x (8 * ((k : Int) - 1)) = x / 256 ^ (k - 1) := by
        rw [shrI_lit _ _ _ (by show (8 * ((k : Int) - 1)).toNat ≤ 32; omega), show (8 * ((k : Int) - 1)).toNat = 8 * (k - 1) by omega, Int.pow_mul]
        rfl
      rw [hsh]
      refine append1_i (UInt8.ofNat (x.toNat / 256 ^ (k - 1))) (byte_of hxo.1) o5 (by simp [S.be_length]; omega) e5.size fun y6 w6 f6 o6 _ => ?_
      refine hag3 _ w6 ⟨k - 1, by omega, ?_, Ext.own e5 f6 fun i hi => (o5.inB hi).1, ?_⟩ ?_
      · simp only [wrap_i64 (x := 8 * ((k : Int) - 1) - 8) (by omega) (by omega)]; omega
      · have hsft := S.be_shift (4 - k) (k - 1) x.toNat
        rw [show k - 1 + 1 = k by omega, show 4 - k + 1 = 4 - (k - 1) by omega] at hsft
        rw [hsft, ← List.append_assoc]; exact o6
      · simp only [wrap_i64 (x := 8 * ((k : Int) - 1) - 8) (by omega) (by omega)]; omega
    · have hk0 : k = 0 := by simp at hge2; omega
      subst hk0
      refine hag _ w5 ⟨i + 1, by omega, ?_, e5, ?_⟩ ?_
      · simp only [wrap_i64 (x := (i : Int) + 1) (by omega) (by omega)]; omega
      · rw [htk]; simpa using o5
      · simp only [wrap_i64 (x := (i : Int) + 1) (by omega) (by omega)]; omega
  · have hi8 : i = 8 := by simp at hge; omega
    subst hi8
    rw [List.take_of_length_le (Nat.le_of_eq hl8)] at o4
    exact hK u w4 e4 o4

theorem sumTail_s {z gh : Nat} {t r : Sl} {all : List UInt8} {K : Sl → World → Prop} {w0 w : World} {cs : List Value} (e0 : Ext w0 w) (ht0 : Tabs w0) (hh : Var w0 gh (cs ++ [.slice r.a r.len r.cap, .int .u64 (all.length : Int)])) (hcs : cs.length = 8) (hlen : all.length ≤ 1000000000)
    (h0 : EndAt w w0.heap.size z t (S.sh2.fold S.sh2.first all (all.length / 64)) (all.drop (64 * (all.length / 64)) ++ [128]))
    (hK : ∀ v w', Ext w0 w' → OwnB w' w0.heap.size v (S.sh2.sum all) → K v w') : f95_t1 (at_ z 0) (some (at_ gh 0)) K w := by
  unfold f95_t1
  have hsum := S.sum_rest all
  have hstok := S.fold_ok S.sh2.first all S.first_ok (all.length / 64)
  have hrl : (all.drop (64 * (all.length / 64))).length = all.length % 64 := by rw [List.length_drop]; omega
  generalize S.sh2.fold S.sh2.first all (all.length / 64) = st at h0 hsum hstok
  generalize all.drop (64 * (all.length / 64)) = rest at h0 hsum hrl
  have hzB := h0.base
  have hgap := gap2 all.length
  refine loop_i (fun (_ : Unit) w' => ∃ (j : Nat) (t : Sl), j ≤ S.sh2.gap all.length ∧ Ext w0 w' ∧ EndAt w' w0.heap.size z t st (rest ++ [128] ++ List.replicate j 0)) (fun _ w' => S.sh2.gap all.length + all.length % 64 + 1 - (match w'.cell? (at_ z 8) with | some (.slice _ n _) => n | _ => 0)) ⟨0, t, by omega, e0, by simpa using h0⟩ ?_
  rintro _ w1 again ⟨j, t1, hj, e1, h1⟩ hag
  have hl1 := OwnB.len h1.own
  simp only [List.length_append, List.length_cons, List.length_nil, List.length_replicate, hrl] at hl1
  refine ld1_i (l := .slc) (o := 8) t1 h1.var rfl ?_
  have htm : Int.tmod (t1.len : Int) 64 = ((t1.len % 64 : Nat) : Int) := by rw [Int.tmod_eq_emod_of_nonneg (by omega)]; rfl
  rw [htm]
  refine cond_i (fun hne => ?_) (fun heq => ?_)
  · have hne' : t1.len % 64 ≠ 56 := by simp at hne; omega
    have hj' : j < S.sh2.gap all.length := by omega
    refine ld1_i (l := .slc) (o := 8) t1 h1.var rfl ?_
    refine buildB_i [0] rfl rfl (by omega) fun x w2 e2 o2 => ?_
    refine end_push 0 rfl h1 (by simp; omega) e1.size e2 o2.rd fun t3 w3 f3 h3 => ?_
    have hc1 : w1.cell? (at_ z 8) = some (.slice t1.a t1.len t1.cap) := h1.var.cell rfl
    have hc3 : w3.cell? (at_ z 8) = some (.slice t3.a t3.len t3.cap) := h3.var.cell rfl
    have hl3 := OwnB.len h3.own
    simp only [List.length_append, List.length_cons, List.length_nil, List.length_replicate, hrl] at hl3
    refine hag () w3 ⟨j + 1, t3, by omega, Fr.ext_base e1 f3 (Nat.le_refl _), by rw [List.replicate_succ', ← List.append_assoc]; exact h3⟩ ?_
    rw [hc1, hc3]; simp only; omega
  · have he : t1.len % 64 = 56 := by simp at heq; omega
    have hj' : j = S.sh2.gap all.length := by omega
    subst hj'
    clear hag heq
    refine ld1_i (l := .slc) (o := 8) t1 h1.var rfl ?_
    refine appendZB_i h1.own (by omega) (by simp; omega) e1.size fun t2 w2 f2 o2 hin => ?_
    rw [show (0 : Int).toNat = 0 by rfl, List.replicate_zero, List.append_nil] at o2
    have hz2 : ¬ t2.inB z := fun hk => by
      rcases hin z hk with h3 | h3
      · exact h1.apart h3
      · have := h1.var.lt; omega
    refine st1_i (o := 8) (h1.var.fr f2 h1.apart) (by simp [S.Sha.St.list]) rfl fun w3 f3 v3 => ?_
    have h3 : EndAt w3 w0.heap.size z t2 st (rest ++ [128] ++ List.replicate (S.sh2.gap all.length) 0) := ⟨hzB, v3, o2.fr f3 fun a ha hk => hz2 ⟨a, ha, hk⟩, hz2⟩
    have e3 : Ext w0 w3 := Fr.own1 (Ext.own e1 f2 fun i hi => (h1.own.inB hi).1) f3 hzB
    clear v3 f3 f2 o2 hin h1 e1 hl1 htm he
    generalize hpre : rest ++ [128] ++ List.replicate (S.sh2.gap all.length) 0 = pre at h3
    refine loop_i (fun (x : Int) w' => ∃ (k : Nat) (t : Sl), k ≤ 8 ∧ x = 8 * ((k : Int) - 1) ∧ Ext w0 w' ∧ EndAt w' w0.heap.size z t st (pre ++ S.be (8 - k) (8 * all.length / 256 ^ k))) (fun x _ => (x + 8).toNat) ⟨8, t2, by omega, by simp, e3, by simpa [S.be] using h3⟩ ?_
    rintro x w4 again ⟨k, t4, hk, rfl, e4, h4⟩ hag
    have hprl : pre.length = all.length % 64 + 1 + S.sh2.gap all.length := by rw [← hpre]; simp; omega
    refine cond_i (fun hlt => ?_) (fun hge => ?_)
    · have hk1 : 1 ≤ k := by simp at hlt; omega
      refine ⟨fun x => Ext w4 x, Ext.drew _, ?_⟩
      refine ld1Q_i (l := .slc) (o := 8) t4 (fun x hx => h4.var.ext hx) rfl ?_
      refine nil_i rfl ?_
      refine ld1Q_i (l := .int .u64) (o := 0 + 9) (all.length : Int) (fun x hx => (hh.ext e4).ext hx) (by rw [List.getElem?_append_right (by omega), hcs]; rfl) ?_
      refine shrQ_i (by omega) ?_
      have hsh : shrI .u64 (IntKind.wrap .u64 (8 * (all.length : Int))) (8 * ((k : Int) - 1)) = ((8 * all.length / 256 ^ (k - 1) : Nat) : Int) := by
        rw [wrap_u64 (by omega) (by omega), shrI_lit _ _ _ (by show (8 * ((k : Int) - 1)).toNat ≤ 64; omega), show (8 * ((k : Int) - 1)).toNat = 8 * (k - 1) by omega, Int.pow_mul]
        simp
      rw [hsh]
      refine buildB_i [UInt8.ofNat (8 * all.length / 256 ^ (k - 1))] (by rw [show IntKind.wrap .u8 ((8 * all.length / 256 ^ (k - 1) : Nat) : Int) = ((UInt8.ofNat (8 * all.length / 256 ^ (k - 1))).toNat : Int) by rw [wrap_u8_mod]; simp]; rfl) rfl (by omega) fun x5 w5 e5 o5 => ?_
      have E5 := (Ext.drew w4).trans e5
      refine more_i E5 ?_
      refine end_push _ rfl h4 (by simp [S.be_length]; omega) e4.size E5 o5.rd fun t6 w6 f6 h6 => ?_
      refine hag _ w6 ⟨k - 1, t6, by omega, ?_, Fr.ext_base e4 f6 (Nat.le_refl _), ?_⟩ ?_
      · rw [wrap_i64 (by omega) (by omega)]; omega
      · have hsft := S.be_shift (8 - k) (k - 1) (8 * all.length)
        rw [show k - 1 + 1 = k by omega, show 8 - k + 1 = 8 - (k - 1) by omega] at hsft
        rw [hsft, ← List.append_assoc]; exact h6
      · rw [wrap_i64 (by omega) (by omega)]; omega
    · have hk0 : k = 0 := by simp at hge; omega
      subst hk0
      clear hag hge
      have hps : pre ++ S.be (8 - 0) (8 * all.length / 256 ^ 0) = rest ++ S.tail2 all.length := by rw [← hpre]; simp [S.tail2]
      rw [hps] at h4
      have hpl : (rest ++ S.tail2 all.length).length % 64 = 0 ∧ (rest ++ S.tail2 all.length).length ≤ 1000000 := by
        rw [← hps, List.length_append, S.be_length, hprl]; omega
      generalize rest ++ S.tail2 all.length = ps at h4 hsum hpl
      refine ld1_i (l := .slc) (o := 8) t4 h4.var rfl ?_
      refine chunk_s (n := 64) (by omega) fun g1 g2 w5 e5 hg1 hg2 v1 v2 => ?_
      have e05 := e4.trans e5
      have h5 := h4.ext e5
      have ht4l := e4.size
      have hz4 := h4.var.lt
      refine range_i (fn := Tryz.f82) Tryz.func82 (by kernel_rfl) (by kernel_rfl) ?_
      intro l D oR oB W1 E1 hl hD hlD hoR hoD hyield
      have hsz5 := e5.size
      have hg1l := v1.lt
      have hg2l := v2.lt
      refine chunk1_s (n := 64) (s := t4) (bs := ps) (fun i w' => Fr (fun k => k = z ∨ k = l) W1 w' ∧ EndAt w' w0.heap.size z t4 (S.sh2.fold st ps i) ps ∧ w'.heap[l]? = some oR) (by omega) (by omega) (by omega) ⟨Fr.refl _ _, h5.ext E1, hoR⟩ ?_ ?_ ?_
      · rintro i w' ⟨f1, h6, hr⟩
        refine ⟨(v1.ext E1).fr f1 (by omega), (v2.ext E1).fr f1 (by omega), h6.own.rd, f1.then (Ext.drew _), h6.ext (Ext.drew _), hr⟩
      · rintro i u w' R ⟨f1, h6, hr⟩ hlt hu huin hR
        refine hyield [.slice u.a u.len u.cap] w' _ hr ?_
        refine ⟨hr, ?_⟩
        have hlz : l ≠ z := by omega
        have f2 := fr_putObj w' l oB
        have hlw : l < w'.heap.size := (Array.getElem?_eq_some_iff.1 hr).1
        have hnl : ∀ k, t4.inB k → k ≠ l := fun k hk => by have := (h4.own.inB hk).2; omega
        have h7 := h6.fr f2 (fun h => hlz h.symm) hnl
        have hu7 : Bts (w'.putObj l oB) u ((ps.drop (64 * i)).take 64) := hu.fr f2 fun a ha hk => hnl _ (huin _ ⟨a, ha, rfl⟩) hk
        have ht7 : Tabs (w'.putObj l oB) := ht0.ext ((Ext.own (e05.trans E1) f1 fun k hk => by omega).putObj oB (by omega))
        refine take_s h7.var hu7 (by simp; omega) ht7.2 fun w8 f8 v8 => ?_
        have hfs : S.sh2.comp (S.sh2.fold st ps i) ((ps.drop (64 * i)).take 64) = S.sh2.fold st ps (i + 1) := rfl
        rw [hfs] at v8
        have hb8 : w8.heap[l]? = some oB := f8.heapAt (putObj_at hr) hlz
        refine ⟨hb8, hR _ ?_⟩
        have f9 := fr_putObj w8 l oR
        refine ⟨((f1.trans f2 fun k _ hk => .inr hk).trans f8 fun k _ hk => .inl hk).trans f9 fun k _ hk => .inr hk, ?_, putObj_at hb8⟩
        refine ⟨hzB, v8.fr f9 (fun h => hlz h.symm), ?_, h4.apart⟩
        exact (h7.own.fr f8 fun a ha hk => h4.apart ⟨a, ha, hk⟩).fr f9 fun a ha hk => hnl _ ⟨a, ha, rfl⟩ hk
      · rintro i w6 ⟨f1, h6, hr⟩ hge hlast
        have hi : i = ps.length / 64 := by omega
        subst hi
        refine ⟨hr, fun oX => ?_⟩
        have hlz : l ≠ z := by omega
        have f2 := fr_putObj w6 l oX
        have hnl : ∀ k, t4.inB k → k ≠ l := fun k hk => by have := (h4.own.inB hk).2; omega
        have h7 := h6.fr f2 (fun h => hlz h.symm) hnl
        have hok := S.fold_ok st ps hstok (ps.length / 64)
        generalize S.sh2.fold st ps (ps.length / 64) = fin at h7 hok hsum
        refine ld8_i (s := fin) h7.var ?_
        have e7 : Ext w0 (w6.putObj l oX) := ((Ext.own (e05.trans E1) f1 fun k hk => by omega)).putObj oX (by omega)
        have hDw : (w6.putObj l oX).heap[D]? = some (.deferred (some [])) := by
          rw [putObj_ne _ (fun h => hlD h.symm)]
          exact f1.heapAt hoD (by omega)
        have hDl := (Array.getElem?_eq_some_iff.1 hDw).1
        refine sumOut_s (t := 171) (z := z) (tl := []) (K := fun v w => w.heap[D]? = some (.deferred (some [])) ∧ K v (w.putObj D (.deferred none))) hok fun v w8 e8 o8 => ?_
        refine ⟨e8.heapAt hDw id, ?_⟩
        have f9 := fr_putObj w8 D (.deferred none)
        refine hK v _ ((e7.trans e8).putObj _ (by omega)) ?_
        rw [hsum]
        exact (o8.fr f9 fun a ha hk => by have := (o8.inB ⟨a, ha, rfl⟩).1; omega).base e7.size
end Go.Proofs.YteopoodhclljjaaGreatDoor

/-! Sum02m -/
namespace Go.Proofs.YteopoodhclljjaaGreatDoor
open Go Go.Eng

theorem ld8Q_i {P : Program} {t g : Nat} [AggTy P t 8] {s : S.Sha.St} {tl : List Value} {C : World → Prop} {K : Int → Int → Int → Int → Int → Int → Int → Int → Prop} (h : ∀ w, C w → Var w g (wl s ++ tl)) (hK : K s.a s.b s.c s.d s.e s.f s.g s.h) :
    semQ P C (Instr.loadAt t (.pointer (some (at_ g 0)))) (.agg l8) K := by
  refine ldVQ_i (n := 8) (ls := l8) 0 h (by simp [S.Sha.St.list]) ?_
  exact hK
set_option maxRecDepth 10000 in
theorem sum_s {B gh : Nat} {r : Sl} {all : List UInt8} {K : Sl → World → Prop} {w : World} (h : HashAt w B gh r all) (ht : Tabs w) (hlen : all.length ≤ 1000000000) (hK : ∀ v w', Ext w w' → OwnB w' w.heap.size v (S.sh2.sum all) → K v w') :
    callS Tryz.prog 95 #[.pointer (some (at_ gh 0))] [.one .slc] K w := by
  refine f95_ok ?_
  unfold f95
  have tl : ∀ z t w', Ext w w' → EndAt w' w.heap.size z t (S.sh2.fold S.sh2.first all (all.length / 64)) (all.drop (64 * (all.length / 64)) ++ [128]) → f95_t1 (at_ z 0) (some (at_ gh 0)) K w' :=
    fun z t w' e h' => sumTail_s (cs := wl (S.sh2.fold S.sh2.first all (all.length / 64))) e ht h.var rfl hlen h' hK
  have hv := h.var
  have hrb : OwnB w B r (all.drop (64 * (all.length / 64))) := h.own
  have hrl : (all.drop (64 * (all.length / 64))).length ≤ 1000000000 := by simp; omega
  generalize S.sh2.fold S.sh2.first all (all.length / 64) = st at tl hv
  generalize all.drop (64 * (all.length / 64)) = rest at tl hrb hrl
  -- the four operations
  have opC : ∀ {w1 : World} {Q : Sl → World → Prop}, Ext w w1 → (∀ v w2, Ext w1 w2 → OwnB w2 w1.heap.size v rest → Q v w2) → callS Tryz.prog 29 #[.slice r.a r.len r.cap] [.one .slc] Q w1 := fun e hQ => clone_s (hrb.rd.ext e) (by omega) hQ
  have opB : ∀ {w1 : World} {Q : Sl → World → Prop}, (∀ v w2, Ext w1 w2 → OwnB w2 w1.heap.size v [128] → Q v w2) → semS Tryz.prog (Instr.buildSlice 22 1 #[(0, .int .u8 128)]) (.one .slc) Q w1 := fun hQ => buildB_i [128] rfl rfl (by omega) hQ
  have opA : ∀ {w1 : World} {v x : Sl} {Q : Sl → World → Prop}, Ext w w1 → OwnB w1 w.heap.size v rest → Bts w1 x [128] → (∀ t w2, Ext w w2 → Fr v.inB w1 w2 → OwnB w2 w.heap.size t (rest ++ [128]) → (∀ k, t.inB k → v.inB k ∨ w1.heap.size ≤ k) → Q t w2) →
      semS Tryz.prog (Builtin.append_ #[22, 22] 22 #[.slice v.a v.len v.cap, .slice x.a x.len x.cap]) (.one .slc) Q w1 := fun e o b hQ => appendB_i o b (by simp; omega) e.size fun t w2 f2 o2 hin => hQ t w2 (Ext.own e f2 fun i hi => (o.inB hi).1) f2 o2 hin
  have opL : ∀ {w1 : World} {Q : Addr → World → Prop}, (∀ g w2, Ext w1 w2 → w1.heap.size ≤ g → Var w2 g [.int .u32 0, .int .u32 0, .int .u32 0, .int .u32 0, .int .u32 0, .int .u32 0, .int .u32 0, .int .u32 0, .slice none 0 0, .int .u64 0] → Q (at_ g 0) w2) → semS Tryz.prog (Instr.alloc 173 true (.tuple #[])) (.one .adr) Q w1 := fun hQ => by
    refine alloc_i fun g w2 e h v => ?_
    exact hQ g w2 e h v
  have opF : ∀ {w1 : World} {z : Nat} {t : Sl} {cs : List Value}, Ext w w1 → Var w1 z cs → cs.length = 10 → w.heap.size ≤ z → OwnB w1 w.heap.size t (rest ++ [128]) → ¬ t.inB z →
      semU Tryz.prog (Instr.storeAt 173 (.pointer (some (at_ z 0))) (.agg #[.int .u32 st.a, .int .u32 st.b, .int .u32 st.c, .int .u32 st.d, .int .u32 st.e, .int .u32 st.f, .int .u32 st.g, .int .u32 st.h, .slice t.a t.len t.cap, .int .u64 0])) (fun w => f95_t1 (at_ z 0) (some (at_ gh 0)) K w) w1 := by
    intro w1 z t cs e v hc hz o hn
    have h1 : ∀ x ∈ wl st ++ [.slice t.a t.len t.cap, .int .u64 0], x.oneCell' = true := by
      intro x hx
      simp only [wl, S.Sha.St.list, List.map_cons, List.map_nil, List.cons_append, List.nil_append, List.mem_cons, List.not_mem_nil, or_false] at hx
      rcases hx with rfl | rfl | rfl | rfl | rfl | rfl | rfl | rfl | rfl | rfl <;> rfl
    refine stV_i (P := Tryz.prog) (t := 173) (n := 10) (vs := wl st ++ [.slice t.a t.len t.cap, .int .u64 0]) 0 v rfl (by omega) h1 fun w2 f2 v2 => ?_
    · refine tl z t w2 (Fr.own1 e f2 hz) ⟨hz, ?_, o.fr f2 fun a ha hk => hn ⟨a, ha, hk⟩, hn⟩
      simpa [List.drop_of_length_le (show cs.length ≤ 10 by omega)] using v2
  have e0 : Ext w w.drew := Ext.drew w
  refine ⟨fun x => Ext w x, e0, ?_⟩
  refine nil_i rfl ?_
  refine ld8Q_i (s := st) (fun x hx => hv.ext hx) ?_
  refine nil_i rfl ?_
  refine ld1Q_i (l := .slc) (o := 8) r (fun x hx => hv.ext hx) rfl ?_
  have sz : ∀ {a b : World}, Ext a b → a.heap.size ≤ b.heap.size := fun e => e.size
  refine ⟨?_, ?_, ?_⟩
  · refine opC e0 fun v w1 e1 oc => ?_
    have s1 := sz e1
    have E1 := (e0).trans e1
    have oc := oc.base (sz e0)
    refine more_i E1 ?_
    refine ⟨?_, ?_⟩
    · refine opB fun x w2 e2 ob => ?_
      have s2 := sz e2
      have E2 := (E1).trans e2
      refine more_i E2 ?_
      have oc := oc.ext e2
      refine ⟨?_, ?_⟩
      · refine opA E2 oc ob.rd fun t w3 E3 fa oa hin => ?_
        refine more_i E3 ?_
        refine opL fun z w4 e4 hz vz => ?_
        have hzl := vz.lt
        have E4 := (E3).trans e4
        have hz0 := Nat.le_trans (sz E3) hz
        refine more_i E4 ?_
        have hn : ¬ t.inB z := fun hk => by have := (oa.inB hk).2; omega
        have oa := oa.ext e4
        exact opF E4 vz rfl hz0 oa hn
      · refine opL fun z w3 e3 hz vz => ?_
        have hzl := vz.lt
        have E3 := (E2).trans e3
        have hz0 := Nat.le_trans (sz E2) hz
        refine more_i E3 ?_
        have hvz : ¬ v.inB z := fun hk => by have := (oc.inB hk).2; omega
        have oc := oc.ext e3
        have ob := ob.ext e3
        refine opA E3 oc ob.rd fun t w4 E4 fa oa hin => ?_
        refine more_i E4 ?_
        have hn : ¬ t.inB z := fun hk => by
          rcases hin z hk with h1 | h1
          · exact hvz h1
          · have := vz.lt; omega
        have vz := vz.fr fa hvz
        exact opF E4 vz rfl hz0 oa hn
    · refine opL fun z w2 e2 hz vz => ?_
      have hzl := vz.lt
      have E2 := (E1).trans e2
      have hz0 := Nat.le_trans (sz E1) hz
      refine more_i E2 ?_
      have hvz : ¬ v.inB z := fun hk => by have := (oc.inB hk).2; omega
      have oc := oc.ext e2
      refine opB fun x w3 e3 ob => ?_
      have s3 := sz e3
      have E3 := (E2).trans e3
      refine more_i E3 ?_
      have oc := oc.ext e3
      have vz := vz.ext e3
      refine opA E3 oc ob.rd fun t w4 E4 fa oa hin => ?_
      refine more_i E4 ?_
      have hn : ¬ t.inB z := fun hk => by
        rcases hin z hk with h1 | h1
        · exact hvz h1
        · have := vz.lt; omega
      have vz := vz.fr fa hvz
      exact opF E4 vz rfl hz0 oa hn
  · refine opB fun x w1 e1 ob => ?_
    have s1 := sz e1
    have E1 := (e0).trans e1
    refine more_i E1 ?_
    refine ⟨?_, ?_⟩
    · refine opC E1 fun v w2 e2 oc => ?_
      have s2 := sz e2
      have E2 := (E1).trans e2
      have oc := oc.base (sz E1)
      refine more_i E2 ?_
      have ob := ob.ext e2
      refine ⟨?_, ?_⟩
      · refine opA E2 oc ob.rd fun t w3 E3 fa oa hin => ?_
        refine more_i E3 ?_
        refine opL fun z w4 e4 hz vz => ?_
        have hzl := vz.lt
        have E4 := (E3).trans e4
        have hz0 := Nat.le_trans (sz E3) hz
        refine more_i E4 ?_
        have hn : ¬ t.inB z := fun hk => by have := (oa.inB hk).2; omega
        have oa := oa.ext e4
        exact opF E4 vz rfl hz0 oa hn
      · refine opL fun z w3 e3 hz vz => ?_
        have hzl := vz.lt
        have E3 := (E2).trans e3
        have hz0 := Nat.le_trans (sz E2) hz
        refine more_i E3 ?_
        have hvz : ¬ v.inB z := fun hk => by have := (oc.inB hk).2; omega
        have ob := ob.ext e3
        have oc := oc.ext e3
        refine opA E3 oc ob.rd fun t w4 E4 fa oa hin => ?_
        refine more_i E4 ?_
        have hn : ¬ t.inB z := fun hk => by
          rcases hin z hk with h1 | h1
          · exact hvz h1
          · have := vz.lt; omega
        have vz := vz.fr fa hvz
        exact opF E4 vz rfl hz0 oa hn
    · refine opL fun z w2 e2 hz vz => ?_
      have hzl := vz.lt
      have E2 := (E1).trans e2
      have hz0 := Nat.le_trans (sz E1) hz
      refine more_i E2 ?_
      have ob := ob.ext e2
      refine opC E2 fun v w3 e3 oc => ?_
      have s3 := sz e3
      have E3 := (E2).trans e3
      have oc0 := oc
      have oc := oc.base (sz E2)
      refine more_i E3 ?_
      have ob := ob.ext e3
      have vz := vz.ext e3
      refine opA E3 oc ob.rd fun t w4 E4 fa oa hin => ?_
      refine more_i E4 ?_
      have hvz : ¬ v.inB z := fun hk => by have := (oc0.inB hk).1; omega
      have hn : ¬ t.inB z := fun hk => by
        rcases hin z hk with h1 | h1
        · exact hvz h1
        · have := vz.lt; omega
      have vz := vz.fr fa hvz
      exact opF E4 vz rfl hz0 oa hn
  · refine opL fun z w1 e1 hz vz => ?_
    have hzl := vz.lt
    have E1 := (e0).trans e1
    have hz0 := Nat.le_trans (sz e0) hz
    refine more_i E1 ?_
    refine ⟨?_, ?_⟩
    · refine opC E1 fun v w2 e2 oc => ?_
      have s2 := sz e2
      have E2 := (E1).trans e2
      have oc0 := oc
      have oc := oc.base (sz E1)
      refine more_i E2 ?_
      have vz := vz.ext e2
      refine opB fun x w3 e3 ob => ?_
      have s3 := sz e3
      have E3 := (E2).trans e3
      refine more_i E3 ?_
      have vz := vz.ext e3
      have oc := oc.ext e3
      refine opA E3 oc ob.rd fun t w4 E4 fa oa hin => ?_
      refine more_i E4 ?_
      have hvz : ¬ v.inB z := fun hk => by have := (oc0.inB hk).1; omega
      have hn : ¬ t.inB z := fun hk => by
        rcases hin z hk with h1 | h1
        · exact hvz h1
        · have := vz.lt; omega
      have vz := vz.fr fa hvz
      exact opF E4 vz rfl hz0 oa hn
    · refine opB fun x w2 e2 ob => ?_
      have s2 := sz e2
      have E2 := (E1).trans e2
      refine more_i E2 ?_
      have vz := vz.ext e2
      refine opC E2 fun v w3 e3 oc => ?_
      have s3 := sz e3
      have E3 := (E2).trans e3
      have oc0 := oc
      have oc := oc.base (sz E2)
      refine more_i E3 ?_
      have vz := vz.ext e3
      have ob := ob.ext e3
      refine opA E3 oc ob.rd fun t w4 E4 fa oa hin => ?_
      refine more_i E4 ?_
      have hvz : ¬ v.inB z := fun hk => by have := (oc0.inB hk).1; omega
      have hn : ¬ t.inB z := fun hk => by
        rcases hin z hk with h1 | h1
        · exact hvz h1
        · have := vz.lt; omega
      have vz := vz.fr fa hvz
      exact opF E4 vz rfl hz0 oa hn
end Go.Proofs.YteopoodhclljjaaGreatDoor

/-! Sum02n -/
namespace Go.S
theorem abc2 : sh2.sum [97, 98, 99] = [186, 120, 22, 191, 143, 1, 207, 234, 65, 65, 64, 222, 93, 174, 34, 35, 176, 3, 97, 163, 150, 23, 122, 156, 180, 16, 255, 97, 242, 0, 21, 173] := by decide +kernel
theorem flat4_len : ∀ l : List Int, (l.flatMap fun x => be 4 x.toNat).length = 4 * l.length := fun l => by
  induction l with
  | nil => rfl
  | cons a l ih => simp only [List.flatMap_cons, List.length_append, be_length, List.length_cons, ih]; omega
theorem sum2_len (bs : List UInt8) : (sh2.sum bs).length = 32 := flat4_len _
end Go.S
namespace Go.Proofs.YteopoodhclljjaaGreatDoor
open Go Go.Eng

theorem of_s {s : Sl} {xs : List (Sl × List UInt8)} {K : Sl → World → Prop} {w : World} (hp : Parts w s xs) (ht : Tabs w) (hlen : (flatB xs).length ≤ 1000000000) (hxl : xs.length ≤ 1000000000) (hK : ∀ v w', Ext w w' → OwnB w' w.heap.size v (S.sh2.sum (flatB xs)) → K v w') :
    callS Tryz.prog 78 #[.slice s.a s.len s.cap] [.one .slc] K w := by
  refine f78_ok ?_
  unfold f78
  have hsl := hp.len
  refine new_s ht fun g w1 e1 hg h1 => ?_
  refine loop_i (fun (x : Int) w' => ∃ (i : Nat) (r : Sl), i ≤ xs.length ∧ x = i ∧ Ext w w' ∧ HashAt w' w.heap.size g r (flatB (xs.take i))) (fun x _ => xs.length - x.toNat) ⟨0, Sl.nil, by omega, rfl, e1, h1⟩ ?_
  rintro x w2 again ⟨i, r, hi, rfl, e2, h2⟩ hag
  refine cond_i (fun hlt => ?_) (fun hge => ?_)
  · have hi' : i < xs.length := by simp at hlt; omega
    have hb := hp.each xs[i] (List.getElem_mem _)
    have hsn := flatB_snoc hi'
    have hle := flatB_take_le xs (i + 1)
    rw [hsn, List.length_append] at hle
    refine part_i (hp.ext e2) (by omega) (by omega) ?_
    simp only [Int.toNat_natCast]
    refine write_s h2 (ht.ext e2) (hb.ext e2) ?_ (by omega) fun r' w3 f3 h3 hin => ?_
    · intro hne a ha hk
      have hlt := rd_lt hb (by simpa using hne) ha
      rcases hk with hk | hk
      · omega
      · have := (h2.own.inB hk).1; omega
    · refine hag _ w3 ⟨i + 1, r', by omega, ?_, Ext.own e2 f3 fun k hk => ?_, by rw [hsn]; exact h3⟩ ?_
      · rw [wrap_i64 (by omega) (by omega)]; omega
      · rcases hk with hk | hk
        · omega
        · exact (h2.own.inB hk).1
      · rw [wrap_i64 (by omega) (by omega)]; omega
  · have hi' : i = xs.length := by simp at hge; omega
    subst hi'
    rw [List.take_of_length_le (Nat.le_refl _)] at h2
    refine sum_s h2 (ht.ext e2) hlen fun v w3 e3 o3 => ?_
    exact hK v w3 (e2.trans e3) (o3.base e2.size)

end Go.Proofs.YteopoodhclljjaaGreatDoor
