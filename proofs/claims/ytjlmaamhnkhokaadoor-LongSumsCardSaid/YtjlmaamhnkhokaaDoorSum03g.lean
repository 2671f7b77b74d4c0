/- Layer 3 (long sums): the document's sum. -/
import Derived.Test.YtjlmaamhnkhokaaDoorSum03f
set_option linter.unusedSimpArgs false
set_option linter.unusedVariables false
namespace Go.S.L
open Go Go.Eng
def _root_.Go.S.Sha.St.okL (s : Sha.St) : Prop := ∀ x ∈ s.list, 0 ≤ x ∧ x < 18446744073709551616
theorem add_ok (a b : Int) : 0 ≤ sh3.add a b ∧ sh3.add a b < 18446744073709551616 := by
  show 0 ≤ IntKind.wrap .u64 (a + b) ∧ IntKind.wrap .u64 (a + b) < 18446744073709551616
  rw [wrap_u64_mod]; omega
theorem comp_ok (s : Sha.St) (bs : List UInt8) : (sh3.comp s bs).okL := by
  intro x hx
  unfold Sha.comp Sha.plus Sha.St.list at hx
  simp only [List.mem_cons, List.not_mem_nil, or_false] at hx
  rcases hx with rfl | rfl | rfl | rfl | rfl | rfl | rfl | rfl <;> exact add_ok _ _
theorem first_ok : sh3.first.okL := by unfold Sha.St.okL; decide
theorem fold_ok (s : Sha.St) (bs : List UInt8) (hs : s.okL) : ∀ n, (sh3.fold s bs n).okL
  | 0 => hs
  | n + 1 => comp_ok _ _
theorem padded_len (bs : List UInt8) : (sh3.padded bs).length % 128 = 0 := by
  have : (sh3.padded bs).length = bs.length + 1 + (240 - (bs.length + 1) % 128) % 128 + 16 := by
    simp only [Sha.padded, List.length_append, be_length, List.length_replicate, List.length_cons, List.length_nil]; rfl
  omega
end Go.S.L
namespace Go.Proofs.YtjlmaamhnkhokaaDoor.L
open Go Go.Eng
theorem byte_of {x : Int} {k : Nat} (h0 : 0 ≤ x) : IntKind.wrap .u8 (x / 256 ^ k) = ((UInt8.ofNat (x.toNat / 256 ^ k)).toNat : Int) := by
  obtain ⟨n, rfl⟩ : ∃ n : Nat, x = n := ⟨x.toNat, by omega⟩
  rw [wrap_u8_mod]; simp
theorem refSum_s {s : Sl} {bs : List UInt8} {K : Sl → World → Prop} {w : World} (hs : Bts w s bs) (hlen : bs.length ≤ 1000000000) (hK : ∀ v w', Ext w w' → OwnB w' w.heap.size v (S.L.sh3.sum bs) → K v w') :
    callS Tryd.prog 11 #[.slice s.a s.len s.cap] [.one .slc] K w := by
  refine f11_ok ?_
  unfold f11
  refine buildV_i (wl S.L.sh3.first) rfl int_cells rfl (by omega) fun v1 w1 e1 o1 => ?_
  refine padded_s (hs.ext e1) hlen fun p w2 e2 o2 => ?_
  have hpm := S.L.padded_len bs
  have hpl := OwnB.len o2
  have hpb : (S.L.sh3.padded bs).length ≤ 1000000200 := by
    simp only [S.Sha.padded, List.length_append, S.be_length, List.length_replicate, List.length_cons, List.length_nil]
    have := gap2 bs.length
    have h8 : S.L.sh3.lb = 16 := rfl
    omega
  have hsum : S.L.sh3.sum bs = S.L.sh3.out (S.L.sh3.fold S.L.sh3.first (S.L.sh3.padded bs) ((S.L.sh3.padded bs).length / 128)) := rfl
  generalize S.L.sh3.padded bs = ps at o2 hpm hpl hpb hsum
  have e12 := e1.trans e2
  have hpcap := o2.cap
  refine loop_i (fun (x : Sl × Int) w' => ∃ n : Nat, n ≤ ps.length / 128 ∧ x.2 = 128 * (n : Int) ∧ Ext w2 w' ∧ OwnW w' w.heap.size x.1 (S.L.sh3.fold S.L.sh3.first ps n).list) (fun x _ => ps.length - x.2.toNat) ⟨0, by omega, rfl, Fr.refl _ _, (Own.ext o1 e2).base (Nat.le_refl _)⟩ ?_
  rintro ⟨v, i'⟩ w3 again ⟨n, hn, hi, e3, o3⟩ hag
  dsimp only at hi o3 ⊢
  subst hi
  have hvl : v.len = 8 := OwnW.len o3
  refine cond_i (fun hlt => ?_) (fun hge => ?_)
  · have hlt' : 128 * n < ps.length := by simp at hlt; omega
    rw [wrap_i64 (x := 128 * (n : Int) + 128) (by omega) (by omega)]
    refine sl2_i (by omega) (by omega) (by omega) ?_
    have hc := Bts.cut (o2.rd.ext e3) (l := (128 * (n : Int)).toNat) (hi := (128 * (n : Int) + 128).toNat) (by omega) (by omega)
    rw [show (128 * (n : Int)).toNat = 128 * n by omega, show (128 * (n : Int) + 128).toNat = 128 * n + 128 by omega, show 128 * n + 128 - 128 * n = 128 by omega] at hc
    rw [show (128 * (n : Int)).toNat = 128 * n by omega, show (128 * (n : Int) + 128).toNat = 128 * n + 128 by omega]
    refine refBlock_s o3.rd hc (by simp; omega) fun v4 w4 e4 o4 => ?_
    refine hag _ w4 ⟨n + 1, by omega, ?_, e3.trans e4, o4.base (e12.trans e3).size⟩ ?_
    · simp only; omega
    · simp only; omega
  · have hn' : n = ps.length / 128 := by simp at hge; omega
    subst hn'
    have hok := S.L.fold_ok S.L.sh3.first ps S.L.first_ok (ps.length / 128)
    clear hag hge
    generalize S.L.sh3.fold S.L.sh3.first ps (ps.length / 128) = st at o3 hok hsum
    have e13 := e12.trans e3
    have hl8 : st.list.length = 8 := rfl
    refine loop_i (fun (x : Sl × Int) w' => ∃ i : Nat, i ≤ 8 ∧ x.2 = i ∧ Ext w3 w' ∧ OwnB w' w3.heap.size x.1 ((st.list.take i).flatMap fun x => S.be 8 x.toNat)) (fun x _ => 8 - x.2.toNat) ⟨0, by omega, rfl, Fr.refl _ _, Own.nilSl _ _ _⟩ ?_
    rintro ⟨u, i'⟩ w4 again2 ⟨i, hi, hxi, e4, o4⟩ hag
    dsimp only at hxi o4 ⊢
    subst hxi
    refine cond_i (fun hlt => ?_) (fun hge => ?_)
    · have hi' : i < st.list.length := by simp at hlt; exact (by omega : i < 8)
      have hx : st.list[i]? = some (st.list.getD i 0) := by simp [hi']
      have hxo := hok _ (List.mem_of_getElem? hx)
      generalize st.list.getD i 0 = x at hx hxo
      have hpre : ((st.list.take i).flatMap fun x => S.be 8 x.toNat).length = 8 * i := by
        have : ∀ l : List Int, (l.flatMap fun x => S.be 8 x.toNat).length = 8 * l.length := fun l => by
          induction l with
          | nil => rfl
          | cons a l ih => simp only [List.flatMap_cons, List.length_append, S.be_length, List.length_cons, ih]; omega
        rw [this]; simp; omega
      have htk : (st.list.take (i + 1)).flatMap (fun x => S.be 8 x.toNat) = (st.list.take i).flatMap (fun x => S.be 8 x.toNat) ++ S.be 8 x.toNat := by rw [List.take_add_one, hx, List.flatMap_append]; simp
      generalize (st.list.take i).flatMap (fun x => S.be 8 x.toNat) = pr at o4 hpre htk
      refine loop_i (fun (y : Sl × Int) w' => ∃ k : Nat, k ≤ 8 ∧ y.2 = (k : Int) - 1 ∧ Ext w3 w' ∧ OwnB w' w3.heap.size y.1 (pr ++ S.be (8 - k) (x.toNat / 256 ^ k))) (fun y _ => (y.2 + 1).toNat) ⟨8, by omega, by simp, e4, by simpa [S.be] using o4⟩ ?_
      rintro ⟨y, j⟩ w5 again3 ⟨k, hk, hj, e5, o5⟩ hag3
      dsimp only at hj o5 ⊢
      subst hj
      refine cond_i (fun hlt2 => ?_) (fun hge2 => ?_)
      · have hk1 : 1 ≤ k := by simp at hlt2; omega
        refine elem_i (l := .int .u64) (x := x) ((o3.ext e5).rd) (by omega) (by omega) (by simp [hx, Lf.enc]) ?_
        refine shr_i (by rw [wrap_i64 (by omega) (by omega)]; omega) ?_
        have hsh : shrI .u64 x (IntKind.wrap .i64 (8 * ((k : Int) - 1))) = x / 256 ^ (k - 1) := by
          rw [wrap_i64 (by omega) (by omega), shrI_lit _ _ _ (by show (8 * ((k : Int) - 1)).toNat ≤ 64; omega), show (8 * ((k : Int) - 1)).toNat = 8 * (k - 1) by omega, Int.pow_mul]
          rfl
        rw [hsh]
        refine append1_i (UInt8.ofNat (x.toNat / 256 ^ (k - 1))) (byte_of hxo.1) o5 (by simp [S.be_length]; omega) e5.size fun y6 w6 f6 o6 _ => ?_
        refine hag3 _ w6 ⟨k - 1, by omega, ?_, Ext.own e5 f6 fun i hi => (o5.inB hi).1, ?_⟩ ?_
        · simp only [wrap_i64 (x := (k : Int) - 1 - 1) (by omega) (by omega)]; omega
        · have hsft := S.be_shift (8 - k) (k - 1) x.toNat
          rw [show k - 1 + 1 = k by omega, show 8 - k + 1 = 8 - (k - 1) by omega] at hsft
          rw [hsft, ← List.append_assoc]; exact o6
        · simp only [wrap_i64 (x := (k : Int) - 1 - 1) (by omega) (by omega)]; omega
      · have hk0 : k = 0 := by simp at hge2; omega
        subst hk0
        refine hag _ w5 ⟨i + 1, by omega, ?_, e5, ?_⟩ ?_
        · simp only [wrap_i64 (x := (i : Int) + 1) (by omega) (by omega)]; omega
        · rw [htk]; simpa using o5
        · simp only [wrap_i64 (x := (i : Int) + 1) (by omega) (by omega)]; omega
    · have hi8 : i = 8 := by simp at hge; omega
      subst hi8
      rw [List.take_of_length_le (Nat.le_of_eq hl8)] at o4
      refine hK u w4 (e13.trans e4) ?_
      rw [hsum]
      exact Own.base o4 e13.size
end Go.Proofs.YtjlmaamhnkhokaaDoor.L
