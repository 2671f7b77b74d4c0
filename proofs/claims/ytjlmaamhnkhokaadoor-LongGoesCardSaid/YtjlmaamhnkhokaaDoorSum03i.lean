/- Layer 3 (long sums): Write. -/
import Derived.Test.YtjlmaamhnkhokaaDoorSum03h
import Derived.Test.YtjlmaamhnkhokaaDoorLib5
set_option linter.unusedSimpArgs false
set_option linter.unusedVariables false
namespace Go.S.L
/-- The state goes on over more bytes. -/
theorem fold_more (s : Sha.St) (all bs : List UInt8) (n : Nat) : sh3.fold s (all ++ bs) (all.length / 128 + n) = sh3.fold (sh3.fold s all (all.length / 128)) (all.drop (128 * (all.length / 128)) ++ bs) n := by
  rw [Sha.fold_add, Sha.fold_append _ _ _ _ _ (show sh3.blk * (all.length / 128) ≤ all.length by show 128 * (all.length / 128) ≤ all.length; omega)]
  congr 1
  show (all ++ bs).drop (128 * (all.length / 128)) = _
  rw [List.drop_append_of_le_length (by omega)]
end Go.S.L
namespace Go.Proofs.YtjlmaamhnkhokaaDoor.L
open Go Go.Eng

theorem write_s {B g : Nat} {r p : Sl} {all bs : List UInt8} {K : World → Prop} {w : World} (h : HashAt w B g r all) (ht : Tabs w) (hp : Bts w p bs) (hsep : bs ≠ [] → ∀ a, p.a = some a → ¬ (a.block = g ∨ r.inB a.block)) (hlen : all.length + bs.length ≤ 1000000000)
    (hK : ∀ r' w', Fr (fun k => k = g ∨ r.inB k) w w' → HashAt w' B g r' (all ++ bs) → (∀ k, r'.inB k → w.heap.size ≤ k) → K w') :
    callS Tryd.prog 10 #[.pointer (some (at_ g 0)), .slice p.a p.len p.cap] [] K w := by
  refine f10_ok ?_
  unfold f10
  have hbl := Bts.len hp
  have hr0 : ∀ k, r.inB k → 2 ≤ k := fun k hk => by have := (h.own.inB hk).1; have := h.base.1; omega
  have hB := h.base
  have hgl := h.var.lt
  refine nil_i rfl ?_
  refine ld1_i (l := .int .u64) (o := 9) (all.length : Int) h.var rfl ?_
  refine nil_i rfl ?_
  refine st1_i (o := 9) h.var (by simp [S.Sha.St.list]) rfl fun w1 f1 v1 => ?_
  rw [wrap_u64 (x := (p.len : Int)) (by omega) (by omega), wrap_u64 (x := (all.length : Int) + (p.len : Int)) (by omega) (by omega)] at v1
  have v1' : Var w1 g (wl (S.L.sh3.fold S.L.sh3.first all (all.length / 128)) ++ [.slice r.a r.len r.cap, .int .u64 ((all.length : Int) + (p.len : Int))]) := v1
  have o1 : OwnB w1 B r (all.drop (128 * (all.length / 128))) := h.own.fr f1 fun a ha hk => h.apart ⟨a, ha, hk⟩
  have hp1 : Bts w1 p bs := rd_fr_ne hp f1 fun hne a ha hk => hsep (by simpa using hne) a ha (.inl hk)
  refine nil_i rfl ?_
  refine ld1_i (l := .slc) (o := 8) r v1' rfl ?_
  refine appendB_i o1 hp1 (by simp; omega) (by have := f1.size; omega) fun t w2 f2 o2 hin => ?_
  have v2 := v1'.fr f2 h.apart
  refine nil_i rfl ?_
  refine st1_i (o := 8) v2 (by simp [S.Sha.St.list]) rfl fun w3 f3 v3 => ?_
  have htg : ¬ t.inB g := fun hk => by
    rcases hin g hk with h1 | h1
    · exact h.apart h1
    · have := f1.size; omega
  have o3 : OwnB w3 B t (all.drop (128 * (all.length / 128)) ++ bs) := o2.fr f3 fun a ha hk => htg ⟨a, ha, hk⟩
  have f13 : Fr (fun k => k = g ∨ r.inB k) w w3 := ((f1.mono fun k _ hk => .inl hk).trans f2 fun _ _ hk => .inr hk).trans f3 fun _ _ hk => .inl hk
  have ht3 : Tabs w3 := ht.fr f13 (by rintro (h1 | h1); omega; have := hr0 _ h1; omega) (by rintro (h1 | h1); omega; have := hr0 _ h1; omega)
  have hfold := S.L.fold_more S.L.sh3.first all bs
  generalize hst : S.L.sh3.fold S.L.sh3.first all (all.length / 128) = st at v3 hfold
  have hrl : (all.drop (128 * (all.length / 128))).length < 128 := by simp; omega
  have hrl2 : (all.drop (128 * (all.length / 128))).length = all.length - 128 * (all.length / 128) := by simp
  generalize hrest : all.drop (128 * (all.length / 128)) = rest at o3 hfold hrl hrl2
  have hdl : (rest ++ bs).length = rest.length + bs.length := by simp
  refine loop_i (fun (_ : Unit) w' => ∃ (n : Nat) (u : Sl), 128 * n ≤ (rest ++ bs).length ∧ Fr (fun k => k = g) w3 w' ∧ Var w' g (wl (S.L.sh3.fold st (rest ++ bs) n) ++ [.slice u.a u.len u.cap, .int .u64 ((all.length : Int) + (p.len : Int))]) ∧ Bts w' u ((rest ++ bs).drop (128 * n)) ∧ (∀ k, u.inB k → t.inB k)) (fun _ w' => (match w'.cell? (at_ g 8) with | some (.slice _ n _) => n | _ => 0)) ⟨0, t, by omega, Fr.refl _ _, v3, o3.rd, fun k hk => hk⟩ ?_
  rintro _ w4 again ⟨n, u, hn, f4, v4, b4, hut⟩ hag
  have hul := Bts.len b4
  have hcell : w4.cell? (at_ g 8) = some (.slice u.a u.len u.cap) := v4.cell rfl
  have hug : ¬ u.inB g := fun hk => htg (hut g hk)
  refine nil_i rfl ?_
  refine ld1_i (l := .slc) (o := 8) u v4 rfl ?_
  refine cond_i (fun hge => ?_) (fun hlt => ?_)
  · have h64 : 128 ≤ u.len := by simp at hge; omega
    refine nil_i rfl ?_
    refine ld1_i (l := .slc) (o := 8) u v4 rfl ?_
    refine slHi_i (by omega) (by have := b4.cap; omega) ?_
    have hc : Bts w4 (u.cut 1 0 (128 : Int).toNat) (((rest ++ bs).drop (128 * n)).take 128) := by
      have := Bts.cut b4 (l := 0) (hi := 128) (by omega) (by omega); simpa using this
    have ht4 : Tabs w4 := ht3.fr f4 (by omega) (by omega)
    refine take_s v4 hc (by simp at hul ⊢; omega) ht4.2 fun w5 f5 v5 => ?_
    have hfs : S.L.sh3.comp (S.L.sh3.fold st (rest ++ bs) n) (((rest ++ bs).drop (128 * n)).take 128) = S.L.sh3.fold st (rest ++ bs) (n + 1) := rfl
    rw [hfs] at v5
    refine nil_i rfl ?_
    refine ld1_i (l := .slc) (o := 8) u v5 rfl ?_
    refine slLo_i (by omega) (by omega) ?_
    refine nil_i rfl ?_
    refine st1_i (o := 8) v5 (by simp [S.Sha.St.list]) rfl fun w6 f6 v6 => ?_
    have b5 : Bts w5 u ((rest ++ bs).drop (128 * n)) := b4.fr f5 fun a ha hk => hug ⟨a, ha, hk⟩
    have b6 : Bts w6 u ((rest ++ bs).drop (128 * n)) := b5.fr f6 fun a ha hk => hug ⟨a, ha, hk⟩
    have hc6 : Bts w6 (u.cut 1 (128 : Int).toNat u.len) ((rest ++ bs).drop (128 * (n + 1))) := by
      have := Bts.cut b6 (l := 128) (hi := u.len) (by omega) (by omega)
      rw [List.drop_drop, List.take_of_length_le (by simp at hul ⊢; omega)] at this
      rw [show 128 * (n + 1) = 128 * n + 128 by omega]; exact this
    refine hag () w6 ⟨n + 1, u.cut 1 (128 : Int).toNat u.len, by simp at hul; simp; omega, (f4.trans' f5).trans' f6, v6, hc6, fun k hk => ?_⟩ ?_
    · obtain ⟨a, ha, rfl⟩ := hk
      unfold Sl.cut at ha
      simp only at ha
      split at ha
      · exact hut _ ⟨a, ha, rfl⟩
      · cases hua : u.a with
        | none => rw [hua] at ha; cases ha
        | some b => rw [hua] at ha; simp at ha; subst ha; rw [add_block]; exact hut _ ⟨b, hua, rfl⟩
    · have hcell6 : w6.cell? (at_ g 8) = some (.slice (u.cut 1 (128 : Int).toNat u.len).a (u.cut 1 (128 : Int).toNat u.len).len (u.cut 1 (128 : Int).toNat u.len).cap) := v6.cell rfl
      rw [hcell, hcell6]
      simp only [Sl.cut]
      omega
  · have h64 : u.len < 128 := by simp at hlt; omega
    refine nil_i rfl ?_
    refine ld1_i (l := .slc) (o := 8) u v4 rfl ?_
    refine clone_s b4 (by simp at hul ⊢; omega) fun r' w5 e5 o5 => ?_
    have v5 := v4.ext e5
    refine nil_i rfl ?_
    refine st1_i (o := 8) v5 (by simp [S.Sha.St.list]) rfl fun w6 f6 v6 => ?_
    have hsz : w.heap.size ≤ w4.heap.size := Nat.le_trans f13.size f4.size
    have hr'g : ¬ r'.inB g := fun hk => by have := (o5.inB hk).1; omega
    have hdn : (all ++ bs).length / 128 = all.length / 128 + n := by simp at hul; simp; omega
    refine hK r' w6 (((f13.trans f4 fun _ _ hk => .inl hk).then e5).trans f6 fun _ _ hk => .inl hk) ⟨hB, ?_, ?_, hr'g⟩ fun k hk => ?_
    · rw [hdn, hfold n, List.length_append, hbl.symm]
      exact v6
    · have := o5.base (B' := B) (by omega)
      have o6 : OwnB w6 B r' ((rest ++ bs).drop (128 * n)) := this.fr f6 fun a ha hk => hr'g ⟨a, ha, hk⟩
      have hd : (all ++ bs).drop (128 * ((all ++ bs).length / 128)) = (rest ++ bs).drop (128 * n) := by
        rw [hdn, Nat.mul_add, ← List.drop_drop, List.drop_append_of_le_length (by omega), hrest]
      rw [hd]; exact o6
    · have := (o5.inB hk).1; omega
end Go.Proofs.YtjlmaamhnkhokaaDoor.L
