/- Names of partitions: a text that is ranged over, letter by letter (drive.named, descr.named and what they call). -/
import Derived.Test.YtgjbajjggmpmmaaSh
import Derived.Test.YtgjbajjggmpmmaaTy
import Derived.Test.YtgjbajjggmpmmaaLib6
set_option linter.unusedSimpArgs false
set_option linter.unusedVariables false
namespace Go.S
def okc (b : UInt8) : Bool := (decide (97 ≤ b.toNat) && decide (b.toNat ≤ 122)) || (decide (48 ≤ b.toNat) && decide (b.toNat ≤ 57)) || b.toNat == 95
def named (l : List UInt8) : Bool := decide (1 ≤ l.length) && decide (l.length ≤ 24) && l.all okc
end Go.S
namespace Go.Proofs.Ytgjbajjggmpmmaa
open Go Go.Eng
def badc (c : Int) : Bool := !((((decide (c ≥ 97)) && (decide (c ≤ 122))) || ((decide (c ≥ 48)) && (decide (c ≤ 57)))) || (c == 95))
theorem badc_lo (b : UInt8) : badc (b.toNat : Int) = !S.okc b := by
  unfold badc S.okc
  have e : ((b.toNat : Int) == 95) = (b.toNat == 95) := by rw [Bool.eq_iff_iff]; simp; omega
  rw [e]
  congr 2
  congr 1
  · congr 1 <;> (rw [decide_eq_decide]; omega)
  · congr 1 <;> (rw [decide_eq_decide]; omega)
theorem badc_hi {c : Int} (h : 128 ≤ c) : badc c = true := by
  unfold badc
  have h1 : decide (c ≤ 122) = false := decide_eq_false (by omega)
  have h2 : decide (c ≤ 57) = false := decide_eq_false (by omega)
  have h3 : (c == 95) = false := by rw [Bool.eq_false_iff]; simp; omega
  rw [h1, h2, h3]; simp
theorem indexFunc_s {f : Value} {s : ByteArray} {K : Int → World → Prop} {w : World} (hs : s.size ≤ 9223372036854775807) (hf : ∀ (c : Int) (R : Bool → World → Prop) (w : World), R (badc c) w → callY Try.prog (callSem f #[.int .i32 c]) [.one .bool] R w) (hK : ∀ r w', Ext w w' → (decide (r ≥ 0) = !(s.toList.all S.okc)) → K r w') :
    callS Try.prog 58 #[.string s, f, .bool true] [.one (.int .i64)] K w := by
  refine f58_ok ?_
  unfold f58
  have hsz : s.toList.length = s.size := by rw [← str_size, str_of]
  refine rangeStr_i fun r w1 e1 hr h1 => ?_
  refine loop_i (fun (_ : Unit) w' => ∃ pos, Ext w w' ∧ w'.heap[r]? = some (.stringIter s pos) ∧ pos ≤ s.size ∧ (s.toList.take pos).all S.okc = true) (fun _ w' => match w'.heap[r]? with | some (.stringIter _ pos) => s.size - pos | _ => 0) ⟨0, e1, h1, by omega, rfl⟩ ?_
  rintro _ w2 again ⟨pos, e2, h2, hp, hall⟩ hag
  refine next_i h2 (fun hge => ?_) (fun hlt => ?_)
  · have : s.toList.take pos = s.toList := List.take_of_length_le (by omega)
    rw [this] at hall
    exact hK (-1) w2 e2 (by rw [hall]; rfl)
  · have e3 := e2.putObj (.stringIter s (pos + (Utf8.decode s pos).2)) hr
    obtain ⟨b, hb⟩ : ∃ b, s.toList[pos]? = some b := ⟨s.toList[pos]'(by omega), by simp [show pos < s.toList.length by omega]⟩
    have hmem : b ∈ s.toList := List.mem_of_getElem? hb
    refine hf _ _ _ ?_
    by_cases hlo : b.toNat < 128
    · rw [decode_lo hb hlo] at e3 ⊢
      simp only
      rw [badc_lo]
      refine cond_i (fun hc => ?_) (fun hc => ?_)
      · have hbad : S.okc b = false := by simpa using hc
        refine hK _ _ e3 ?_
        have : s.toList.all S.okc = false := by
          rw [Bool.eq_false_iff]
          intro h
          rw [List.all_eq_true.1 h b hmem] at hbad; cases hbad
        rw [this]; simp
      · have hgood : S.okc b = true := by simpa using hc
        refine hag () _ ⟨pos + 1, e3, putObj_at h2, by omega, ?_⟩ ?_
        · rw [List.take_add_one, hb, List.all_append, hall]; simp [hgood]
        · rw [putObj_at h2, h2]; simp only; omega
    · have hhi := decode_hi hb (by omega)
      rw [badc_hi (by omega)]
      refine cond_i (fun _ => ?_) (fun h => by cases h)
      refine hK _ _ e3 ?_
      have : s.toList.all S.okc = false := by
        rw [Bool.eq_false_iff]
        intro h
        have h3 := List.all_eq_true.1 h b hmem
        unfold S.okc at h3
        simp only [Bool.or_eq_true, Bool.and_eq_true, decide_eq_true_eq, beq_iff_eq] at h3
        omega
      rw [this]; simp
theorem containsFunc_s {f : Value} {s : ByteArray} {K : Bool → World → Prop} {w : World} (hs : s.size ≤ 9223372036854775807) (hf : ∀ (c : Int) (R : Bool → World → Prop) (w : World), R (badc c) w → callY Try.prog (callSem f #[.int .i32 c]) [.one .bool] R w) (hK : ∀ w', Ext w w' → K (!(s.toList.all S.okc)) w') :
    callS Try.prog 42 #[.string s, f] [.one .bool] K w := by
  refine f42_ok ?_
  unfold f42
  refine f54_ok ?_
  unfold f54
  exact indexFunc_s hs hf fun r w' e h => by show K (decide (r ≥ 0)) w'; rw [h]; exact hK w' e
theorem named_pre (s : ByteArray) : ((!(s.toList == (ByteArray.mk #[]).toList)) && (decide ((s.size : Int) ≤ 24))) = (decide (1 ≤ s.toList.length) && decide (s.toList.length ≤ 24)) := by
  have hsz : s.toList.length = s.size := by rw [← str_size, str_of]
  rw [show (ByteArray.mk #[]).toList = [] from str_toList []]
  congr 1
  · cases hl : s.toList with
    | nil => rfl
    | cons a l => simp
  · rw [decide_eq_decide]; omega
end Go.Proofs.Ytgjbajjggmpmmaa
namespace Go.Proofs.Ytgjbajjggmpmmaa
open Go Go.Eng
theorem snamed_s {s : ByteArray} {K : Bool → World → Prop} {w : World} (hs : s.size ≤ 9223372036854775807) (hK : ∀ w', Ext w w' → K (S.named s.toList) w') : callS Try.prog 22 #[.string s] [.one .bool] K w := by
  refine f22_ok ?_
  unfold f22
  refine join_i (fun b w' => b = S.named s.toList ∧ Ext w w') (fun b w' ⟨hb, e⟩ => by rw [hb]; exact hK w' e) fun J hJ => ?_
  rw [named_pre]
  refine cond_i (fun h => ?_) (fun h => ?_)
  · refine containsFunc_s hs (fun c R w hR => ?_) fun w' e => hJ _ _ ⟨by unfold S.named; rw [h]; simp, e⟩
    refine callFn_i (fn := Try.f43) Try.func43 (by kernel_rfl) (by kernel_rfl) ?_
    refine f43_ok ?_
    unfold f43
    exact hR
  · exact hJ _ _ ⟨by unfold S.named; rw [h]; simp, Fr.refl _ _⟩
end Go.Proofs.Ytgjbajjggmpmmaa
