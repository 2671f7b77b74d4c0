/- Layer 12 (descr): lists of descriptors are read, by the program. -/
import Derived.Test.YtgjbajjggmpmmaaDes12h
set_option linter.unusedSimpArgs false
set_option linter.unusedVariables false
namespace Go.S
open Go Go.Eng
theorem num_drop (b : List UInt8) (a o n : Nat) : num (b.drop a) o n = num b (a + o) n := by unfold num; rw [List.drop_drop]
theorem num_int {b : List UInt8} {o : Nat} (n : Nat) : num b o n = num b (o + 0) n := rfl
end Go.S
namespace Go.Proofs.Ytgjbajjggmpmmaa
open Go Go.Eng
/-- What a list read by the program is: fresh rows, apart from each other's list. -/
structure Fresh (w : World) (B : Nat) (s : Sl) (ds : List DM) : Prop where
  own : Own w B s 11 (ds.map DM.cells).flatten
  ok : ∀ d ∈ ds, d.Ok w
  inB : ∀ d ∈ ds, ∀ k, d.inB k → (B ≤ k ∧ k < w.heap.size) ∧ ¬ s.inB k
theorem Fresh.len {w : World} {B : Nat} {s : Sl} {ds : List DM} (h : Fresh w B s ds) : s.len = ds.length := by have := h.own.len; rw [flat_len] at this; omega
theorem Fresh.ext {w w' : World} {B : Nat} {s : Sl} {ds : List DM} (h : Fresh w B s ds) (e : Ext w w') : Fresh w' B s ds :=
  ⟨h.own.ext e, fun d hd => (h.ok d hd).ext e, fun d hd k hk => ⟨⟨(h.inB d hd k hk).1.1, Nat.lt_of_lt_of_le (h.inB d hd k hk).1.2 e.size⟩, (h.inB d hd k hk).2⟩⟩
theorem Fresh.ds {w : World} {B : Nat} {s : Sl} {ds : List DM} (h : Fresh w B s ds) : DsIn w s ds := DsIn.of_own h.own h.ok
theorem dParse_s {p0 : Sl} {b : List UInt8} {K : Sl → Int → World → Prop} {w : World} (hs : Bts w p0 b) (hlen : b.length ≤ 100000)
    (hErr : (S.pars (b.length + 1) [] b).2 ≠ 0 → ∀ w', Ext w w' → K Sl.nil (S.pars (b.length + 1) [] b).2 w')
    (hOk : (S.pars (b.length + 1) [] b).2 = 0 → ∀ v w' ds, Ext w w' → ds.map DM.pure = (S.pars (b.length + 1) [] b).1 → Fresh w' w.heap.size v ds → K v 0 w') :
    callS Try.prog 16 #[.slice p0.a p0.len p0.cap] [.one .slc, .one (.int .i64)] K w := by
  refine f16_ok ?_
  unfold f16
  have hbl := Bts.len hs
  have hcap := hs.cap
  generalize hRR : S.pars (b.length + 1) [] b = R at hErr hOk
  have err : ∀ e w', R = ([], e) → e ≠ 0 → Ext w w' → K Sl.nil e w' := fun e w' he hne x => by
    have := hErr (by rw [he]; exact hne) w' x
    rw [he] at this; exact this
  refine loop_i (fun (st : Sl × Int) w' => Ext w w' ∧ ∃ (a f : Nat) (ds : List DM), a ≤ b.length ∧ st.2 = a ∧ Fresh w' w.heap.size st.1 ds ∧ ds.length ≤ 32 ∧ (b.drop a).length < f ∧ S.pars f (ds.map DM.pure) (b.drop a) = R) (fun st _ => b.length - st.2.toNat)
    ⟨Fr.refl _ _, 0, b.length + 1, [], by omega, rfl, ⟨Own.nilSl _ _ 11, fun d (hd : d ∈ []) => (by cases hd), fun d (hd : d ∈ []) => (by cases hd)⟩, by simp, by simp, hRR⟩ ?_
  rintro ⟨out, a'⟩ w1 again ⟨e1, a, f, ds, ha, ha', hfr, hds, hf, hR⟩ hag
  dsimp only at ha' hfr ⊢
  subst ha'
  have hol := hfr.len
  have hdl : (b.drop a).length = b.length - a := List.length_drop
  obtain ⟨f, rfl⟩ : ∃ g, f = g + 1 := ⟨f - 1, by omega⟩
  have hpl : (ds.map DM.pure).length = ds.length := List.length_map _
  refine cond_i (fun hlt => ?_) (fun hge => ?_)
  · have hal : a < b.length := by have : (a : Int) < (p0.len : Int) := of_decide_eq_true hlt
                                  omega
    rw [S.pars, if_neg (by omega), hpl] at hR
    refine cond_i (fun h32 => ?_) (fun h32 => ?_)
    · have h : ds.length = 32 := by have h2 : (out.len : Int) = 32 := by simpa using h32
                                    omega
      rw [if_pos h] at hR
      exact err 11 w1 hR.symm (by decide) e1
    have h32' : ¬ ds.length = 32 := by
      intro h
      rw [hol, h] at h32
      simp at h32
    rw [if_neg h32'] at hR
    rw [wrap_i64 (x := (p0.len : Int) - (a : Int)) (by omega) (by omega)]
    refine cond_i (fun h16 => ?_) (fun h16 => ?_)
    · have h : (p0.len : Int) - (a : Int) < 16 := of_decide_eq_true h16
      rw [if_pos (by omega)] at hR
      exact err 10 w1 hR.symm (by decide) e1
    have h16' : ¬ (p0.len : Int) - (a : Int) < 16 := of_decide_eq_false h16
    rw [if_neg (by omega)] at hR
    have hs1 := hs.ext e1
    refine get_s (size := ((8 : Nat) : Int)) hs1 (by omega) (by constructor <;> omega) (by constructor <;> omega) ?_
    rw [S.get_num (by omega) (by omega)]
    have n1 : S.num (b.drop a) 0 8 = S.num b a 8 := by rw [S.num_drop]; rfl
    have n2 : S.num (b.drop a) 8 8 = S.num b (a + 8) 8 := by rw [S.num_drop]
    rw [n1, n2] at hR
    by_cases hk : S.num b a 8 > 4
    · rw [if_pos hk] at hR
      refine cond_i (fun _ => err 33 w1 hR.symm (by decide) e1) (fun h => ?_)
      rw [Bool.or_eq_false_iff] at h
      by_cases hbig : S.num b a 8 ≥ 9223372036854775808
      · have h1 := h.1
        rw [if_pos hbig] at h1
        cases h1
      · have h2 := h.2
        rw [if_neg hbig] at h2
        have : ¬ ((S.num b a 8 : Nat) : Int) > 4 := of_decide_eq_false h2
        omega
    rw [if_neg hk] at hR
    rw [if_neg (show ¬ S.num b a 8 ≥ 9223372036854775808 by omega)]
    refine cond_i (fun h => ?_) (fun _ => ?_)
    · rw [Bool.or_eq_true] at h
      rcases h with h | h
      · cases h
      · have : ((S.num b a 8 : Nat) : Int) > 4 := of_decide_eq_true h
        omega
    rw [wrap_i64 (x := (a : Int) + 8) (by omega) (by omega)]
    refine get_s (off := ((a + 8 : Nat) : Int)) (size := ((8 : Nat) : Int)) hs1 (by omega) (by constructor <;> omega) (by constructor <;> omega) ?_
    rw [S.get_num (by omega) (by omega)]
    rw [wrap_i64 (x := (p0.len : Int) - (a : Int) - 16) (by omega) (by omega)]
    by_cases hn : S.num b (a + 8) 8 > (b.drop a).length - 16
    · rw [if_pos hn] at hR
      refine cond_i (fun _ => err 10 w1 hR.symm (by decide) e1) (fun h => ?_)
      rw [Bool.or_eq_false_iff] at h
      by_cases hbig : S.num b (a + 8) 8 ≥ 9223372036854775808
      · have h1 := h.1
        rw [if_pos hbig] at h1
        cases h1
      · have h2 := h.2
        rw [if_neg hbig] at h2
        have : ¬ ((S.num b (a + 8) 8 : Nat) : Int) > (p0.len : Int) - (a : Int) - 16 := of_decide_eq_false h2
        omega
    rw [if_neg hn] at hR
    rw [if_neg (show ¬ S.num b (a + 8) 8 ≥ 9223372036854775808 by omega)]
    refine cond_i (fun h => ?_) (fun _ => ?_)
    · rw [Bool.or_eq_true] at h
      rcases h with h | h
      · cases h
      · have : ((S.num b (a + 8) 8 : Nat) : Int) > (p0.len : Int) - (a : Int) - 16 := of_decide_eq_true h
        omega
    dsimp only
    rw [wrap_i64 (x := (a : Int) + 16) (by omega) (by omega), wrap_i64 (x := (a : Int) + 16 + ((S.num b (a + 8) 8 : Nat) : Int)) (by omega) (by omega)]
    have hnum : S.num b (a + 8) 8 ≤ b.length - a - 16 := by omega
    refine sl2_i (lo := (a : Int) + 16) (by omega) (by omega) (by omega) ?_
    have hcut := Bts.cut hs1 (l := a + 16) (hi := a + 16 + S.num b (a + 8) 8) (by omega) (by omega)
    rw [show a + 16 + S.num b (a + 8) 8 - (a + 16) = S.num b (a + 8) 8 by omega, ← List.drop_drop] at hcut
    rw [show ((a : Int) + 16).toNat = a + 16 by omega, show ((a : Int) + 16 + ((S.num b (a + 8) 8 : Nat) : Int)).toNat = a + 16 + S.num b (a + 8) 8 by omega]
    generalize hX : (((b.drop a).drop 16).take (S.num b (a + 8) 8)) = X at hcut hR
    have hXl : X.length ≤ 100000 := by rw [← hX, List.length_take]; omega
    refine dread_s (kind := ((S.num b a 8 : Nat) : Int)) hcut hXl (by omega) (fun hrd d w2 e2 => ?_) (fun hrd d w2 e2 hdp okd hdin => ?_)
    · rw [if_pos hrd] at hR
      refine alloc_i fun g w3 e3 hg v3 => ?_
      refine stD_i (d := d) v3 rfl fun w4 f4 v4 => ?_
      refine cond_i (fun _ => err 12 w4 hR.symm (by decide) (e1.trans (e2.trans (Fr.own1 e3 f4 hg)))) (fun h => by cases h)
    rw [if_neg (by rw [hrd]; simp)] at hR
    refine alloc_i fun g w3 e3 hg v3 => ?_
    refine stD_i (d := d) v3 rfl fun w4 f4 v4 => ?_
    have e24 := Fr.own1 e3 f4 hg
    have E4 := e1.trans (e2.trans e24)
    have e14 := e2.trans e24
    refine cond_i (fun h => by cases h) (fun _ => ?_)
    refine ldD_i v4 ?_
    have hfr4 := hfr.ext e14
    refine contains_s (q := fun o => d.pure.like o.pure) hfr4.ds (by omega) (fun o ho R' w5 e5 hR' => ?_) fun w5 e5 => ?_
    · refine callBound_i (bs := #[.agg d.cells.toArray]) (fn := Try.f32) Try.func32 (by kernel_rfl) (by kernel_rfl) ?_
      exact like_s hR'
    rw [any_pure (q := d.pure.like)]
    rw [← hdp] at hR
    refine cond_i (fun hq => ?_) (fun hq => ?_)
    · rw [if_pos hq] at hR
      exact err 35 w5 hR.symm (by decide) (E4.trans e5)
    rw [if_neg (by rw [hq]; simp)] at hR
    refine ldD_i (v4.ext e5) ?_
    have E5 := E4.trans e5
    have hfr5 := hfr4.ext e5
    have okd5 := (okd.ext e24).ext e5
    refine append1D_i (d := d) hfr5.own (by omega) E5.size (by kernel_rfl) fun v w6 f6 o6 hvl hin => ?_
    have hsz2 : w1.heap.size ≤ w5.heap.size := (e14.trans e5).size
    have hd5 : ∀ k, d.inB k → (w.heap.size ≤ k ∧ k < w5.heap.size) ∧ ¬ out.inB k := fun k hk => by
      have h1 := hdin k hk
      have h2 := e1.size
      have h3 := (e24.trans e5).size
      refine ⟨⟨by omega, by omega⟩, fun h => ?_⟩
      have := (hfr.own.inB h).2
      omega
    have hfr6 : Fresh w6 w.heap.size v (ds ++ [d]) := by
      refine ⟨o6, fun o ho => ?_, fun o ho k hk => ?_⟩
      · rcases List.mem_append.1 ho with ho | ho
        · exact (hfr5.ok o ho).fr f6 fun k hk => (hfr5.inB o ho k hk).2
        · rw [List.mem_singleton.1 ho]
          exact okd5.fr f6 fun k hk => (hd5 k hk).2
      · have h7 : (w.heap.size ≤ k ∧ k < w5.heap.size) ∧ ¬ out.inB k := by
          rcases List.mem_append.1 ho with ho | ho
          · exact hfr5.inB o ho k hk
          · rw [List.mem_singleton.1 ho] at hk
            exact hd5 k hk
        refine ⟨⟨h7.1.1, Nat.lt_of_lt_of_le h7.1.2 f6.size⟩, fun hv => ?_⟩
        rcases hin k hv with h | h
        · exact h7.2 h
        · omega
    refine hag _ w6 ⟨Ext.own E5 f6 fun k hk => (hfr5.own.inB hk).1, a + 16 + S.num b (a + 8) 8, f, ds ++ [d], by omega, by omega, hfr6, by rw [List.length_append]; simp; omega, by rw [List.length_drop]; omega, ?_⟩ ?_
    · rw [List.map_append, List.map_cons, List.map_nil, ← hR, List.drop_drop, Nat.add_assoc]
    · dsimp only
      omega
  · have hal : a = b.length := by have : ¬ (a : Int) < (p0.len : Int) := of_decide_eq_false hge
                                  omega
    rw [S.pars, if_pos (by omega)] at hR
    subst hR
    exact hOk rfl out w1 ds e1 rfl hfr
end Go.Proofs.Ytgjbajjggmpmmaa
