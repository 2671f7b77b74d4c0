/- Layer 3 (long sums): Of; the example. -/
import Derived.Test.YtjlmaamhnkhokaaDoorSum03m
set_option linter.unusedSimpArgs false
set_option linter.unusedVariables false
namespace Go.S.L
theorem abc2 : sh3.sum [97, 98, 99] = [221, 175, 53, 161, 147, 97, 122, 186, 204, 65, 115, 73, 174, 32, 65, 49, 18, 230, 250, 78, 137, 169, 126, 162, 10, 158, 238, 230, 75, 85, 211, 154, 33, 146, 153, 42, 39, 79, 193, 168, 54, 186, 60, 35, 163, 254, 235, 189, 69, 77, 68, 35, 100, 60, 232, 14, 42, 154, 201, 79, 165, 76, 164, 159] := by decide +kernel
theorem flat4_len : ∀ l : List Int, (l.flatMap fun x => be 8 x.toNat).length = 8 * l.length := fun l => by
  induction l with
  | nil => rfl
  | cons a l ih => simp only [List.flatMap_cons, List.length_append, be_length, List.length_cons, ih]; omega
theorem sum2_len (bs : List UInt8) : (sh3.sum bs).length = 64 := flat4_len _
end Go.S.L
namespace Go.Proofs.YtjlmaamhnkhokaaDoor.L
open Go Go.Eng

theorem of_s {s : Sl} {xs : List (Sl × List UInt8)} {K : Sl → World → Prop} {w : World} (hp : Parts w s xs) (ht : Tabs w) (hlen : (flatB xs).length ≤ 1000000000) (hxl : xs.length ≤ 1000000000) (hK : ∀ v w', Ext w w' → OwnB w' w.heap.size v (S.L.sh3.sum (flatB xs)) → K v w') :
    callS Tryd.prog 12 #[.slice s.a s.len s.cap] [.one .slc] K w := by
  refine f12_ok ?_
  unfold f12
  have hsl := hp.len
  refine new_s ht fun g w1 e1 hg h1 => ?_
  refine loop_i (fun (x : Int) w' => ∃ (i : Nat) (r : Sl), i ≤ xs.length ∧ x = i ∧ Ext w w' ∧ HashAt w' w.heap.size g r (flatB (xs.take i))) (fun x _ => xs.length - x.toNat) ⟨0, Sl.nil, by omega, rfl, e1, h1⟩ ?_
  rintro x w2 again ⟨i, r, hi, rfl, e2, h2⟩ hag
  refine cond_i (fun hlt => ?_) (fun hge => ?_)
  · have hi' : i < xs.length := by simp at hlt; omega
    have hb := hp.each xs[i] (List.getElem_mem _)
    have hsn := flatB_snoc hi'
    have hle := flatB_take_le xs (i + 1)
    rw [hsn, List.length_append] at hle
    refine part_i (hp.ext e2) (by omega) (by omega) ?_
    simp only [Int.toNat_natCast]
    refine write_s h2 (ht.ext e2) (hb.ext e2) ?_ (by omega) fun r' w3 f3 h3 hin => ?_
    · intro hne a ha hk
      have hlt := rd_lt hb (by simpa using hne) ha
      rcases hk with hk | hk
      · omega
      · have := (h2.own.inB hk).1; omega
    · refine hag _ w3 ⟨i + 1, r', by omega, ?_, Ext.own e2 f3 fun k hk => ?_, by rw [hsn]; exact h3⟩ ?_
      · rw [wrap_i64 (by omega) (by omega)]; omega
      · rcases hk with hk | hk
        · omega
        · exact (h2.own.inB hk).1
      · rw [wrap_i64 (by omega) (by omega)]; omega
  · have hi' : i = xs.length := by simp at hge; omega
    subst hi'
    rw [List.take_of_length_le (Nat.le_refl _)] at h2
    refine sum_s h2 (ht.ext e2) hlen fun v w3 e3 o3 => ?_
    exact hK v w3 (e2.trans e3) (o3.base e2.size)

theorem anchor2_s {K : Bool → World → Prop} {w : World} (ht : Tabs w) (hK : ∀ w', Ext w w' → K true w') : callS Tryd.prog 8 #[] [.one .bool] K w := by
  refine f8_ok ?_
  unfold f8
  refine bytesConst_i [97, 98, 99] (by kernel_rfl) rfl (by omega) fun x w1 e1 o1 => ?_
  refine one_i (bs := [97, 98, 99]) o1.rd fun s w2 e2 p2 => ?_
  refine of_s p2 (ht.ext (e1.trans e2)) (by simp [flatB]) (by simp) fun v w3 e3 o3 => ?_
  have e03 := (e1.trans e2).trans e3
  rw [show flatB [(x, [97, 98, 99])] = [97, 98, 99] by rfl, S.L.abc2] at o3
  have hl := OwnB.len o3
  simp only [List.length_cons, List.length_nil] at hl
  have el : ∀ {i : Nat} {n : Int} {Q : Int → World → Prop} (b : UInt8), ([221, 175, 53, 161, 147, 97, 122, 186, 204, 65, 115, 73, 174, 32, 65, 49, 18, 230, 250, 78, 137, 169, 126, 162, 10, 158, 238, 230, 75, 85, 211, 154, 33, 146, 153, 42, 39, 79, 193, 168, 54, 186, 60, 35, 163, 254, 235, 189, 69, 77, 68, 35, 100, 60, 232, 14, 42, 154, 201, 79, 165, 76, 164, 159] : List UInt8)[i]? = some b → n = i → i < 64 → Q (b.toNat : Int) w3 →
      semS Tryd.prog (Instr.indexAt 24 (.slice v.a v.len v.cap) (.int .i64 n)) (.one .adr) (fun a w => semS Tryd.prog (Instr.loadAt 5 (.pointer (some a))) (.one (.int .u8)) Q w) w3 := by
    intro i n Q b hb hn hi hQ
    subst hn
    exact elem_i (l := .int .u8) (x := (b.toNat : Int)) o3.rd (by omega) (by omega) (by rw [Int.toNat_natCast]; exact bytes_get? hb) hQ
  refine join_i (fun b w' => b = true ∧ w3 = w') ?_ ?_
  · rintro b w' ⟨rfl, rfl⟩
    refine join_i (fun b w' => b = true ∧ w3 = w') ?_ ?_
    · rintro b w' ⟨rfl, rfl⟩
      refine join_i (fun b w' => b = true ∧ w3 = w') ?_ ?_
      · rintro b w' ⟨rfl, rfl⟩; exact hK w3 e03
      · intro J hJ
        exact cond_i (fun _ => el (i := 63) 159 rfl rfl (by omega) (hJ _ _ ⟨rfl, rfl⟩)) (fun h => by cases h)
    · intro J hJ
      exact cond_i (fun _ => el (i := 1) 175 rfl rfl (by omega) (hJ _ _ ⟨rfl, rfl⟩)) (fun h => by cases h)
  · intro J hJ
    exact cond_i (fun _ => el (i := 0) 221 rfl rfl (by omega) (hJ _ _ ⟨rfl, rfl⟩)) (fun h => by rw [hl] at h; cases h)
end Go.Proofs.YtjlmaamhnkhokaaDoor.L
