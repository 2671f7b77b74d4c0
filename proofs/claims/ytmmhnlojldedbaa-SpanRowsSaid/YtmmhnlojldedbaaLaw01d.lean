/- More laws of layer 1 over the contracts: rows, pads. -/
import Derived.Test.YtmmhnlojldedbaaLaw01c
import Derived.Test.YtmmhnlojldedbaaRowLib2
set_option linter.unusedSimpArgs false
set_option linter.unusedVariables false
namespace Go.S
open Go Go.Eng
/-- Numbers in their own sizes, one behind the other. -/
def row (l : List (Int × Int)) : List UInt8 := l.flatMap fun x => be x.1.toNat x.2.toNat
def fits (x : Int × Int) : Prop := 1 ≤ x.1 ∧ x.1 ≤ 8 ∧ 0 ≤ x.2 ∧ x.2.toNat < 256 ^ x.1.toNat ∧ x.2.toNat < 9223372036854775808
theorem row_snoc (l : List (Int × Int)) (x : Int × Int) : row (l ++ [x]) = row l ++ be x.1.toNat x.2.toNat := by simp [row]
theorem row_append (l l' : List (Int × Int)) : row (l ++ l') = row l ++ row l' := by simp [row]
theorem get_mid (p q : List UInt8) (size n : Nat) (h1 : 1 ≤ size) (h8 : size ≤ 8) (hn : n < 256 ^ size) (hb : n < 9223372036854775808) : get (p ++ (be size n ++ q)) p.length size = ((n : Int), 0) := by
  unfold get
  rw [if_neg (by omega)]
  have hw : within p.length size (p ++ (be size n ++ q)).length = true := within_iff.2 (by simp [be_length]; omega)
  rw [if_neg (by rw [hw]; simp)]
  have : ((p ++ (be size n ++ q)).drop (p.length : Int).toNat).take (size : Int).toNat = be size n := by
    rw [Int.toNat_natCast, Int.toNat_natCast, List.drop_left, List.take_append_of_le_length (by rw [be_length]; omega), List.take_of_length_le (by rw [be_length]; omega)]
  rw [this, beN_be _ _ hn, if_neg (by omega)]
theorem row_len (l : List (Int × Int)) (h : ∀ x ∈ l, fits x) : (row l).length ≤ 8 * l.length := by
  induction l with
  | nil => simp [row]
  | cons x l ih =>
    have h1 := h x (by simp)
    have h2 := ih fun y hy => h y (by simp [hy])
    unfold fits at h1
    simp only [row, List.flatMap_cons, List.length_append, be_length, List.length_cons] at h2 ⊢
    omega
end Go.S
namespace Go.Proofs.Ytmmhnlojldedbaa
open Go Go.Eng

abbrev l2 : List Lf := [.int .i64, .int .i64]
theorem open_l2 : ∀ (css : List (List Value)), (∀ c ∈ css, KindsW l2 c) → ∃ l : List (Int × Int), css = l.map (fun x => [.int .i64 x.1, .int .i64 x.2]) ∧ ∀ x ∈ l, S.I64 x.1 ∧ S.I64 x.2
  | [], _ => ⟨[], rfl, fun x h => by cases h⟩
  | c :: css, h => by
    obtain ⟨l, rfl, hl⟩ := open_l2 css fun c hm => h c (by simp [hm])
    have hc := h c (by simp)
    rcases c with _ | ⟨c0, _ | ⟨c1, _ | ⟨c2, c⟩⟩⟩
    · exact hc.elim
    · exact hc.2.elim
    · obtain ⟨⟨x, rfl, hx⟩, ⟨y, rfl, hy⟩, _⟩ := hc
      refine ⟨(x, y) :: l, rfl, fun z hz => ?_⟩
      rcases List.mem_cons.1 hz with rfl | hz
      · exact ⟨wf_i64 hx, wf_i64 hy⟩
      · exact hl z hz
    · exact hc.2.2.elim

theorem SpanRows_s {s : Sl} {l : List (Int × Int)} {K : Bool → World → Prop} {w : World} (hs : Rds w s 2 (l.map fun x => [.int .i64 x.1, .int .i64 x.2])) (hl : ∀ x ∈ l, S.I64 x.1 ∧ S.I64 x.2) (hK : ∀ w', Ext w w' → K true w') :
    callS Try.prog 9 #[.slice s.a s.len s.cap] [.one .bool] K w := by
  refine f9_ok ?_
  unfold f9
  refine anchor_s fun w1 e1 => ?_
  have hs1 := hs.ext e1
  have hll : l.length = s.len := by have := hs1.len; simpa using this
  refine cond_i (fun h => by cases h) (fun _ => ?_)
  refine cond_i (fun h => hK _ e1) (fun h => ?_)
  have h60 : l.length ≤ 60 := by simp at h; omega
  -- an element is loaded into a variable
  refine loop_i (fun (x : Sl × Int) w2 => ∃ k : Nat, k ≤ l.length ∧ x.2 = k ∧ Ext w1 w2 ∧ OwnB w2 w1.heap.size x.1 (S.row (l.take k)) ∧ ∀ y ∈ l.take k, S.fits y) (fun x _ => l.length - x.2.toNat) ⟨0, by omega, rfl, Fr.refl _ _, Own.nilSl _ _ _, fun y hy => by simp at hy⟩ ?_
  rintro ⟨b, i⟩ w2 again ⟨k, hk, hi, e2, o2, hf⟩ hag
  dsimp only at hi o2 ⊢
  subst hi
  have hbl := S.row_len (l.take k) hf
  have hbl' : (S.row (l.take k)).length ≤ 480 := by simp at hbl; omega
  refine cond_i (fun hlt => ?_) (fun hge => ?_)
  · have hk' : k < l.length := by simp at hlt; omega
    obtain ⟨a, ha⟩ := (hs1.ext e2).some (by omega)
    obtain ⟨x, hx⟩ : ∃ x, l[k]? = some x := ⟨l[k], by simp [hk']⟩
    have hxm := hl x (List.mem_of_getElem? hx)
    refine ix_i ha (by omega) (by omega) ?_
    refine ldA_i (ls := l2) (cs := [.int .i64 x.1, .int .i64 x.2]) rfl ((hs1.ext e2).elem ha (i := k) (by simp [hx])) ?_
    show semS _ _ _ _ _
    refine alloc_i fun g w3 e3 hg v3 => ?_
    refine stV_i (vs := [.int .i64 x.1, .int .i64 x.2]) 0 v3 rfl (Nat.le_refl 2) (by simp [Value.oneCell']) fun w4 f4 v4 => ?_
    have e4 := Fr.own1 e3 f4 hg
    refine ixA_i (by omega) (by decide) ?_
    refine ld1_i x.1 v4 rfl ?_
    refine ixA_i (by omega) (by decide) ?_
    refine ld1_i x.2 v4 rfl ?_
    have o4 := o2.ext e4
    refine put_s o4.rd (by omega) hxm.1 hxm.2 fun v w5 e5 o5 => ?_
    have e15 := (e2.trans e4).trans e5
    refine cond_i (fun h => hK _ (e1.trans e15)) (fun h => ?_)
    have hok : (S.put (S.row (l.take k)) x.1 x.2).2 = 0 := by simpa using h
    obtain ⟨z1, z8, z0, zr, zp⟩ := S.put_ok hok
    rw [zp] at o5
    have ht : l.take (k + 1) = l.take k ++ [x] := by rw [List.take_add_one, hx]; rfl
    have hfx : S.fits x := by
      refine ⟨z1, z8, z0, S.room (by omega) (by omega) fun h8 => ?_, by omega⟩
      have := zr (by omega)
      have e := S.pow_int x.2.toNat x.1.toNat
      rw [Int.toNat_of_nonneg z0] at e
      omega
    refine hag _ w5 ⟨k + 1, by omega, ?_, e15, ?_, ?_⟩ ?_
    · simp only [wrap_i64 (x := (k : Int) + 1) (by omega) (by omega)]; omega
    · rw [ht, S.row_snoc]
      exact o5.base (by have := (e2.trans e4).size; omega)
    · rw [ht]
      intro y hy
      rcases List.mem_append.1 hy with hy | hy
      · exact hf y hy
      · simp at hy; subst hy; exact hfx
    · simp only [wrap_i64 (x := (k : Int) + 1) (by omega) (by omega)]; omega
  · have hk' : k = l.length := by simp at hge; omega
    subst hk'
    rw [List.take_length] at o2 hf hbl'
    have hvl := OwnB.len o2
    clear hag hge
    refine loop_i (fun (x : Int × Int) w3 => ∃ k : Nat, k ≤ l.length ∧ x.2 = k ∧ x.1 = ((S.row (l.take k)).length : Int) ∧ Ext w2 w3) (fun x _ => l.length - x.2.toNat) ⟨0, by omega, rfl, rfl, Fr.refl _ _⟩ ?_
    rintro ⟨at0, i⟩ w3 again2 ⟨k, hk, hi, hat, e3⟩ hag
    dsimp only at hi hat ⊢
    subst hi
    subst hat
    have e13 := e2.trans e3
    have hsplit : S.row l = S.row (l.take k) ++ S.row (l.drop k) := by rw [← S.row_append, List.take_append_drop]
    have hpl : (S.row (l.take k)).length ≤ (S.row l).length := by rw [hsplit]; simp
    refine cond_i (fun hlt => ?_) (fun hge => ?_)
    · have hk' : k < l.length := by simp at hlt; omega
      obtain ⟨a, ha⟩ := (hs1.ext e13).some (by omega)
      obtain ⟨x, hx⟩ : ∃ x, l[k]? = some x := ⟨l[k], by simp [hk']⟩
      have hxe : l[k] = x := by simpa [hk'] using hx
      have hxm := hl x (List.mem_of_getElem? hx)
      obtain ⟨f1, f2, f3, f4, f5⟩ := hf x (List.mem_of_getElem? hx)
      have ht : l.take (k + 1) = l.take k ++ [x] := by rw [List.take_add_one, hx]; rfl
      have hd : l.drop k = x :: l.drop (k + 1) := by rw [← hxe]; exact (List.drop_eq_getElem_cons hk')
      have hlen1 : ((S.row (l.take (k + 1))).length : Int) = (S.row (l.take k)).length + x.1 := by rw [ht, S.row_snoc, List.length_append, S.be_length]; omega
      have hpl1 : (S.row (l.take (k + 1))).length ≤ (S.row l).length := by
        have : S.row l = S.row (l.take (k + 1)) ++ S.row (l.drop (k + 1)) := by rw [← S.row_append, List.take_append_drop]
        rw [this]; simp
      have hget : S.get (S.row l) ((S.row (l.take k)).length : Int) x.1 = (x.2, 0) := by
        have := S.get_mid (S.row (l.take k)) (S.row (l.drop (k + 1))) x.1.toNat x.2.toNat (by omega) (by omega) f4 f5
        rw [Int.toNat_of_nonneg (by omega), Int.toNat_of_nonneg f3] at this
        rw [hsplit, hd]
        exact this
      refine ix_i ha (by omega) (by omega) ?_
      refine ldA_i (ls := l2) (cs := [.int .i64 x.1, .int .i64 x.2]) rfl ((hs1.ext e13).elem ha (i := k) (by simp [hx])) ?_
      show semS _ _ _ _ _
      refine alloc_i fun g w4 e4 hg v4 => ?_
      refine stV_i (vs := [.int .i64 x.1, .int .i64 x.2]) 0 v4 rfl (Nat.le_refl 2) (by simp [Value.oneCell']) fun w5 f5 v5 => ?_
      have e5 := Fr.own1 e4 f5 hg
      refine ixA_i (by omega) (by decide) ?_
      refine ld1_i x.1 v5 rfl ?_
      refine get_s ((o2.ext e3).ext e5).rd (by omega) (by constructor <;> omega) hxm.1 ?_
      rw [hget]
      refine join_i (fun c w' => w' = w5 ∧ c = false) ?_ fun J hJ => ?_
      · rintro c w' ⟨rfl, rfl⟩
        refine cond_i (fun h => by cases h) (fun _ => ?_)
        refine ixA_i (by omega) (by decide) ?_
        refine ld1_i x.1 v5 rfl ?_
        refine hag _ w' ⟨k + 1, by omega, ?_, ?_, e3.trans e5⟩ ?_
        · simp only [wrap_i64 (x := (k : Int) + 1) (by omega) (by omega)]; omega
        · simp only [wrap_i64 (x := ((S.row (l.take k)).length : Int) + x.1) (by omega) (by omega)]; omega
        · simp only [wrap_i64 (x := (k : Int) + 1) (by omega) (by omega)]; omega
      · refine cond_i (fun h => by simp at h) (fun _ => ?_)
        refine ixA_i (by omega) (by decide) ?_
        refine ld1_i x.2 v5 rfl ?_
        exact hJ _ _ ⟨rfl, by simp⟩
    · have hk' : k = l.length := by simp at hge; omega
      subst hk'
      rw [List.take_length]
      refine get_s (o2.ext e3).rd (by omega) (by constructor <;> omega) (by constructor <;> omega) ?_
      have hget : S.get (S.row l) ((S.row l).length : Int) 1 = (0, 10) := by
        unfold S.get
        rw [if_neg (by omega), if_pos]
        rw [Bool.eq_false_iff]; intro h; have := S.within_iff.1 h; omega
      rw [hget]
      have : ((((S.row l).length : Int) == (b.len : Int)) && ((10 : Int) == 10)) = true := by simp [hvl]
      simp only at this ⊢
      rw [this]
      exact hK _ (e1.trans e13)
end Go.Proofs.Ytmmhnlojldedbaa
