/- Layer 3 (long sums): the law LongSums. -/
import Derived.Test.YtjlmaamhnkhokaaDoorSum03n
set_option linter.unusedSimpArgs false
set_option linter.unusedVariables false
namespace Go.Proofs.YtjlmaamhnkhokaaDoor.L
open Go Go.Eng

theorem eq_str {a b : List UInt8} (h : a = b) : ((str a).toList == (str b).toList) = true := by rw [str_toList, str_toList, h]; simp
/-- A sum under way, and beside it a slice of one's own that holds all bytes. -/
structure Beside (w : World) (B g : Nat) (r v : Sl) (all : List UInt8) : Prop where
  hash : HashAt w B g r all
  own : OwnB w B v all
  ne : ¬ v.inB g
  apart : ∀ k, v.inB k → ¬ r.inB k
/-- 'all = append(all, p...); h.Write(p)' -/
theorem beside_i {t ty : TypeId} {B g : Nat} {r v p : Sl} {all bs : List UInt8} {w0 w : World} {K : Sl → World → Prop} [SliceTy Tryd.prog t 5 1 (.int .u8 0)] (h : Beside w B g r v all) (hB : w0.heap.size = B) (e : Ext w0 w) (ht : Tabs w0) (hp0 : Bts w0 p bs) (hlen : all.length + bs.length ≤ 1000000000)
    (hK : ∀ r' v' w', Ext w0 w' → Beside w' B g r' v' (all ++ bs) → K v' w') :
    semS Tryd.prog (Builtin.append_ #[t, t] ty #[.slice v.a v.len v.cap, .slice p.a p.len p.cap]) (.one .slc) (fun v' w => callS Tryd.prog 10 #[.pointer (some (at_ g 0)), .slice p.a p.len p.cap] [] (K v') w) w := by
  have hb := h.hash.base
  have hp := hp0.ext e
  have hgl := h.hash.var.lt
  refine appendB_i h.own hp (by omega) (by rw [← hB]; exact e.size) fun v' w2 f2 o2 hin => ?_
  have hh := h.hash.fr f2 h.ne fun k hk hv => h.apart k hv hk
  have e2 : Ext w0 w2 := Ext.own e f2 fun k hk => by rw [hB]; exact (h.own.inB hk).1
  have hv1 : ∀ k, v'.inB k → k ≠ g ∧ ¬ r.inB k := fun k hk => by
    rcases hin k hk with h1 | h1
    · exact ⟨fun h2 => h.ne (h2 ▸ h1), h.apart k h1⟩
    · refine ⟨by omega, fun h2 => ?_⟩
      have := (h.hash.own.inB h2).2; omega
  refine write_s hh (ht.ext e2) (hp0.ext e2) ?_ hlen fun r' w3 f3 h3 hr' => ?_
  · intro hne a ha hk
    have hlt := rd_lt hp0 (by simpa using hne) ha
    rcases hk with hk | hk
    · omega
    · have := (h.hash.own.inB hk).1; omega
  · refine hK r' v' w3 (Ext.own e2 f3 fun k hk => ?_) ⟨h3, o2.fr f3 fun a ha hk => ?_, fun hk => (hv1 g hk).1 rfl, fun k hk hr => ?_⟩
    · rcases hk with hk | hk
      · omega
      · have := (h.hash.own.inB hk).1; omega
    · have := hv1 _ ⟨a, ha, rfl⟩
      rcases hk with hk | hk
      · exact this.1 hk
      · exact this.2 hk
    · have := hr' k hr; have := (o2.inB hk).2; omega
theorem LongSums_s {s : Sl} {xs : List (Sl × List UInt8)} {K : Bool → World → Prop} {w : World} (hp : Parts w s xs) (ht : Tabs w) (hK : ∀ w', Ext w w' → K true w') :
    callS Tryd.prog 3 #[.slice s.a s.len s.cap] [.one .bool] K w := by
  refine f3_ok ?_
  unfold f3
  have hsl := hp.len
  refine anchor2_s ht fun w1 e1 => ?_
  refine cond_i (fun h => by cases h) (fun _ => ?_)
  refine cond_i (fun _ => hK w1 e1) (fun h40 => ?_)
  have hx40 : xs.length ≤ 40 := by simp at h40; omega
  have ht1 := ht.ext e1
  have hp1 := hp.ext e1
  refine new_s ht1 fun g w2 e2 hg h2 => ?_
  refine loop_i (fun (x : Sl × Int) w' => ∃ (i : Nat) (r : Sl), i ≤ xs.length ∧ x.2 = i ∧ Ext w1 w' ∧ Beside w' w1.heap.size g r x.1 (flatB (xs.take i)) ∧ (flatB (xs.take i)).length ≤ 600 * i) (fun x _ => xs.length - x.2.toNat) ⟨0, Sl.nil, by omega, rfl, e2, ⟨h2, Own.nilSl _ _ _, Sl.nil_inB _, fun k hk => absurd hk (Sl.nil_inB _)⟩, by simp [flatB]⟩ ?_
  rintro ⟨v, i'⟩ w3 again ⟨i, r, hi, hxi, e3, b3, hl3⟩ hag
  dsimp only at hxi b3 hl3 ⊢
  subst hxi
  refine cond_i (fun hlt => ?_) (fun hge => ?_)
  · have hi' : i < xs.length := by simp at hlt; omega
    have hb := hp1.each xs[i] (List.getElem_mem _)
    have hbl := Bts.len hb
    have hsn := flatB_snoc hi'
    refine part_i (hp1.ext e3) (by omega) (by omega) ?_
    simp only [Int.toNat_natCast]
    refine cond_i (fun _ => hK w3 (e1.trans e3)) (fun h6 => ?_)
    have h600 : xs[i].2.length ≤ 600 := by simp at h6; omega
    refine beside_i (K := fun v' w => again (v', IntKind.wrap .i64 ((i : Int) + 1)) w) b3 rfl e3 ht1 hb (by omega) fun r' v' w4 e4 b4 => ?_
    refine hag _ w4 ⟨i + 1, r', by omega, ?_, e4, by rw [hsn]; exact b4, by rw [hsn, List.length_append]; omega⟩ ?_
    · simp only [wrap_i64 (x := (i : Int) + 1) (by omega) (by omega)]; omega
    · simp only [wrap_i64 (x := (i : Int) + 1) (by omega) (by omega)]; omega
  · have hi' : i = xs.length := by simp at hge; omega
    subst hi'
    rw [List.take_of_length_le (Nat.le_refl _)] at b3 hl3
    refine refSum_s b3.own.rd (by omega) fun v4 w4 e4 o4 => ?_
    refine b2s_i o4.rd ?_
    have E4 := e3.trans e4
    refine of_s (hp1.ext E4) (ht1.ext E4) (by omega) (by omega) fun v5 w5 e5 o5 => ?_
    refine b2s_i o5.rd ?_
    have E5 := E4.trans e5
    refine join_i (fun b w' => b = true ∧ Ext w5 w') ?_ ?_
    · rintro b w6 ⟨rfl, e6⟩
      refine join_i (fun b w' => b = true ∧ Ext w5 w') ?_ ?_
      · rintro b w7 ⟨rfl, e7⟩; exact hK w7 (e1.trans (E5.trans e7))
      · intro J hJ
        refine cond_i (fun _ => ?_) (fun h => by cases h)
        have E6 := E5.trans e6
        refine one_i (bs := flatB xs) (b3.own.rd.ext ((e4.trans e5).trans e6)) fun v7 w7 e7 p7 => ?_
        have E7 := E6.trans e7
        refine of_s p7 (ht1.ext E7) (by simp [flatB] at hl3 ⊢; omega) (by simp) fun v8 w8 e8 o8 => ?_
        refine b2s_i o8.rd ?_
        exact hJ _ _ ⟨eq_str (by simp [flatB]), (e6.trans e7).trans e8⟩
    · intro J hJ
      refine cond_i (fun _ => ?_) (fun h => by rw [eq_str rfl] at h; cases h)
      refine sum_s (b3.hash.ext (e4.trans e5)) (ht1.ext E5) (by omega) fun v6 w6 e6 o6 => ?_
      refine b2s_i o6.rd ?_
      exact hJ _ _ ⟨eq_str rfl, e6⟩
end Go.Proofs.YtjlmaamhnkhokaaDoor.L
