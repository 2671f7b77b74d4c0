/- Layer 10 (drive): the example. -/
import Derived.Test.YtjphpadgbhegaaaOne10
set_option linter.unusedSimpArgs false
set_option linter.unusedVariables false
namespace Go.Proofs.Ytjphpadgbhegaaa
open Go Go.Eng
theorem anchor10_s {K : Bool → World → Prop} {w : World} (hK : ∀ w', Ext w w' → K true w') : callS Try.prog 8 #[] [.one .bool] K w := by
  refine f8_ok ?_
  unfold f8
  refine newOne_s (name := [97]) rfl ⟨by omega, by omega⟩ (by decide) (fun w' e h => absurd (by decide +kernel) h) fun gd L w1 e1 _ hgd hin d1 => ?_
  have own : ∀ {a b : World}, Ext w a → Fr (L.inD gd) a b → Ext w b := fun h1 h2 => Ext.own h1 h2 hin
  have own1 : ∀ {a b : World}, Ext w a → Fr (fun k => k = gd) a b → Ext w b := fun h1 h2 => Fr.own1 h1 h2 hgd
  refine join_i (fun b w' => b = false ∧ w1 = w') ?_ ?_
  · rintro b w' ⟨rfl, rfl⟩
    refine cond_i (fun h => by cases h) (fun _ => ?_)
    refine buildV_i [.bool false, .bool true] rfl (fun v hv => by simp at hv; rcases hv with rfl | rfl <;> exact ⟨rfl, rfl⟩) rfl (by omega) fun x w2 e2 o2 => ?_
    refine dArm_s (ks := [false, true]) (d1.ext e2) ⟨by omega, by omega⟩ o2.rd (by decide) fun w3 L3 f3 d3 hin3 _ => ?_
    rw [S.arm_one] at d3
    have E2 := e1.trans e2
    have E3 := own1 E2 f3
    have hin3' : ∀ k, L3.inD gd k → w.heap.size ≤ k := fun k hk => by
      rcases hin3 k hk with h | h
      · exact hin k h
      · have := E2.size; omega
    refine makeB_i (by omega) (by omega) fun v w4 e4 o4 => ?_
    have hvl := OwnB.len o4
    simp only [List.length_replicate] at hvl
    have E4 := E3.trans e4
    have hfs : ∀ n : Nat, n ≤ 128 → (List.replicate n (255 : UInt8) ++ List.replicate (128 - n) 0).length = 128 := fun n hn => by simp; omega
    refine loop_i (fun (j : Int) w' => ∃ n : Nat, n ≤ 128 ∧ j = n ∧ Fr v.inB w4 w' ∧ OwnB w' w3.heap.size v (List.replicate n 255 ++ List.replicate (128 - n) 0)) (fun j _ => 128 - j.toNat) ⟨0, by omega, rfl, Fr.refl _ _, by simpa using o4⟩ ?_
    rintro j w5 again ⟨n, hn, rfl, f5, o5⟩ hag
    refine cond_i (fun hlt => ?_) (fun hge => ?_)
    · have hn' : n < 128 := by have := of_decide_eq_true hlt; omega
      refine put1_i 255 o5 (by omega) (by omega) rfl fun w6 f6 o6 => ?_
      refine hag _ w6 ⟨n + 1, by omega, by rw [wrap_i64 (by omega) (by omega)]; omega, f5.trans' f6, ?_⟩ (by rw [wrap_i64 (by omega) (by omega)]; omega)
      have : (List.replicate n (255 : UInt8) ++ List.replicate (128 - n) 0).set ((n : Nat) : Int).toNat 255 = List.replicate (n + 1) 255 ++ List.replicate (128 - (n + 1)) 0 := by
        rw [Int.toNat_natCast, show 128 - n = (128 - (n + 1)) + 1 by omega, List.replicate_succ, List.set_append_right _ _ (by simp)]
        simp [List.replicate_succ']
      rw [this] at o6; exact o6
    · have hn' : n = 128 := by have := of_decide_eq_false hge; omega
      subst hn'
      clear hag hge
      simp only [Nat.sub_self, List.replicate_zero, List.append_nil] at o5
      have hv3 : ∀ k, v.inB k → w3.heap.size ≤ k := fun k hk => (o4.inB hk).1
      have d5 := (d3.ext e4).fr f5 fun k hk h => by have := d3.lt hk; have := hv3 k h; omega
      have E5 : Ext w w5 := Ext.own E4 f5 fun k hk => by have := hv3 k hk; have := E3.size; omega
      refine dWrite_s (name := ByteArray.mk #[97]) d5 ⟨by omega, by omega⟩ o5.rd (by simp) (fun _ a ha h => by have := d3.lt h; have := hv3 _ ⟨a, ha, rfl⟩; omega) fun w6 f6 d6 => ?_
      rw [show (ByteArray.mk #[97]).toList = [97] from str_toList [97]] at d6 ⊢
      rw [show max (0 : Int) (-1) = 0 by decide] at d6 ⊢
      rw [S.write_one0 (by rw [S.within_iff]; simp)] at d6 ⊢
      simp only at d6 ⊢
      have E6 : Ext w w6 := Ext.own E5 f6 hin3'
      refine join_i (fun b w' => b = false ∧ w6 = w') ?_ ?_
      · rintro b w' ⟨rfl, rfl⟩
        refine cond_i (fun h => by cases h) (fun _ => ?_)
        refine dBoot_s d6 fun w7 f7 d7 => ?_
        rw [S.boot_one] at d7
        refine dRead_s (name := ByteArray.mk #[97]) d7 ⟨by omega, by omega⟩ ⟨by omega, by omega⟩ fun u w8 f8 d8 o8 => ?_
        rw [show (ByteArray.mk #[97]).toList = [97] from str_toList [97]] at d8 o8 ⊢
        rw [S.read_one (by rw [S.over_length, List.length_replicate]; decide), S.badIn_none] at o8 ⊢
        simp only [Bool.false_eq_true, if_false] at o8 ⊢
        have E8 : Ext w w8 := own1 (own1 E6 f7) f8
        have hres : ((S.over (List.replicate (128 : Int).toNat 0) (List.replicate 128 255) (0 : Int).toNat fun k => [false, true].getD k false).drop (0 : Int).toNat).take (128 : Int).toNat = List.replicate 64 0 ++ List.replicate 64 255 := by decide +kernel
        rw [hres] at o8
        have hul := OwnB.len o8
        simp only [List.length_append, List.length_replicate] at hul
        have el : ∀ {i : Nat} {n : Int} {Q : Int → World → Prop} (b : UInt8), (List.replicate 64 (0 : UInt8) ++ List.replicate 64 255)[i]? = some b → n = i → i < 128 → Q (b.toNat : Int) w8 →
            semS Try.prog (Instr.indexAt 22 (.slice u.a u.len u.cap) (.int .i64 n)) (.one .adr) (fun a w => semS Try.prog (Instr.loadAt 5 (.pointer (some a))) (.one (.int .u8)) Q w) w8 := by
          intro i n Q b hb hn hi hQ
          subst hn
          exact elem_i (l := .int .u8) (x := (b.toNat : Int)) o8.rd (by omega) (by omega) (by rw [Int.toNat_natCast]; exact bytes_get? hb) hQ
        refine join_i (fun b w' => b = true ∧ w8 = w') ?_ ?_
        · rintro b w' ⟨rfl, rfl⟩
          refine join_i (fun b w' => b = true ∧ w8 = w') ?_ ?_
          · rintro b w' ⟨rfl, rfl⟩
            refine join_i (fun b w' => b = true ∧ w8 = w') ?_ ?_
            · rintro b w' ⟨rfl, rfl⟩; exact hK w8 E8
            · intro J hJ
              exact cond_i (fun _ => el (i := 127) 255 (by decide) rfl (by omega) (hJ _ _ ⟨rfl, rfl⟩)) (fun h => by cases h)
          · intro J hJ
            exact cond_i (fun _ => el (i := 64) 255 (by decide) rfl (by omega) (hJ _ _ ⟨rfl, rfl⟩)) (fun h => by cases h)
        · intro J hJ
          rw [show ((u.len : Nat) : Int) = 128 by omega]
          exact cond_i (fun _ => el (i := 63) 0 (by decide) rfl (by omega) (hJ _ _ ⟨rfl, rfl⟩)) (fun h => by cases h)
      · intro J hJ
        refine cond_i (fun h => by cases h) (fun _ => ?_)
        exact dDown_s d6 (hJ _ _ ⟨rfl, rfl⟩)
  · intro J hJ
    refine cond_i (fun h => by cases h) (fun _ => ?_)
    exact ptrEq_i (hJ _ _ ⟨rfl, rfl⟩)
end Go.Proofs.Ytjphpadgbhegaaa
