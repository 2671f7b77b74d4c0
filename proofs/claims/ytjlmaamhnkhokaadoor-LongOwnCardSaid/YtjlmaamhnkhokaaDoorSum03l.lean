/- Layer 3 (long sums): Sum. -/
import Derived.Test.YtjlmaamhnkhokaaDoorSum03i
import Derived.Test.YtjlmaamhnkhokaaDoorChunk
set_option linter.unusedSimpArgs false
set_option linter.unusedVariables false
namespace Go.S.L
open Go Go.Eng
/-- What stands behind a text. -/
def tail2 (n : Nat) : List UInt8 := [128] ++ List.replicate (sh3.gap n) 0 ++ be 16 (8 * n)
theorem padded_tail (all : List UInt8) : sh3.padded all = all ++ tail2 all.length := by simp [Sha.padded, tail2, sh3]
theorem sum_rest (all : List UInt8) : sh3.sum all = sh3.out (sh3.fold (sh3.fold sh3.first all (all.length / 128)) (all.drop (128 * (all.length / 128)) ++ tail2 all.length) ((all.drop (128 * (all.length / 128)) ++ tail2 all.length).length / 128)) := by
  have hl : (all.drop (128 * (all.length / 128)) ++ tail2 all.length).length = (sh3.padded all).length - 128 * (all.length / 128) := by
    rw [padded_tail, List.length_append, List.length_append, List.length_drop]; omega
  have hp : (sh3.padded all).length = all.length + (tail2 all.length).length := by rw [padded_tail, List.length_append]
  rw [← fold_more, ← padded_tail, hl]
  show sh3.out (sh3.fold sh3.first (sh3.padded all) ((sh3.padded all).length / 128)) = _
  congr 2
  omega
end Go.S.L
namespace Go.Proofs.YtjlmaamhnkhokaaDoor.L
open Go Go.Eng

/-- A sum's end under way. -/
structure EndAt (w : World) (B z : Nat) (t : Sl) (st : S.Sha.St) (bs : List UInt8) : Prop where
  base : B ≤ z
  var : Var w z (wl st ++ [.slice t.a t.len t.cap, .int .u64 0])
  own : OwnB w B t bs
  apart : ¬ t.inB z
theorem EndAt.ext {w w' : World} {B z : Nat} {t : Sl} {st : S.Sha.St} {bs : List UInt8} (h : EndAt w B z t st bs) (e : Ext w w') : EndAt w' B z t st bs := ⟨h.base, h.var.ext e, h.own.ext e, h.apart⟩
theorem EndAt.fr {T : Nat → Prop} {w w' : World} {B z : Nat} {t : Sl} {st : S.Sha.St} {bs : List UInt8} (h : EndAt w B z t st bs) (e : Fr T w w') (h1 : ¬ T z) (h2 : ∀ k, t.inB k → ¬ T k) : EndAt w' B z t st bs :=
  ⟨h.base, h.var.fr e h1, h.own.fr e (fun a ha => h2 _ ⟨a, ha, rfl⟩), h.apart⟩
/-- One byte more. -/
theorem end_push {w w1 : World} {B z : Nat} {t x : Sl} {st : S.Sha.St} {bs : List UInt8} {n : Int} (b : UInt8) (hn : n = (b.toNat : Int)) (h : EndAt w B z t st bs) (hl : bs.length ≤ 1000000000) (hB : B ≤ w.heap.size) {K : World → Prop} (hx : Ext w w1) (hb : Bts w1 x [b])
    (hK : ∀ t' w', Fr (fun k => B ≤ k) w w' → EndAt w' B z t' st (bs ++ [b]) → K w') :
    semS Tryd.prog (Builtin.append_ #[24, 24] 24 #[.slice t.a t.len t.cap, .slice x.a x.len x.cap]) (.one .slc) (fun r w => semU Tryd.prog (Instr.storeAt 24 (.pointer (some (at_ z 8))) (.slice r.a r.len r.cap)) K w) w1 := by
  have h1 := h.ext hx
  refine appendB_i h1.own hb (by simp; omega) (Nat.le_trans hB hx.size) fun t' w2 f2 o2 hin => ?_
  have v2 := h1.var.fr f2 h.apart
  have hz : ¬ t'.inB z := fun hk => by
    rcases hin z hk with h3 | h3
    · exact h.apart h3
    · have := h1.var.lt; omega
  refine st1_i (o := 8) v2 (by simp [S.Sha.St.list]) rfl fun w3 f3 v3 => ?_
  refine hK t' w3 ?_ ⟨h.base, v3, o2.fr f3 fun a ha hk => hz ⟨a, ha, hk⟩, hz⟩
  refine (hx.fr.trans f2 fun k _ hk => (h1.own.inB hk).1).trans f3 fun k _ hk => ?_
  have := h.base; omega
theorem Fr.ext_base {B : Nat} {a b c : World} (h : Ext a b) (k : Fr (fun k => B ≤ k) b c) (hB : a.heap.size ≤ B) : Ext a c := Ext.own h k fun i hi => Nat.le_trans hB hi

theorem sumOut_s {z : Nat} {st : S.Sha.St} {tl : List Value} {t : TypeId} [AggTy Tryd.prog t 8] (hok : st.okL) {K : Sl → World → Prop} {w : World}
    (hK : ∀ v w', Ext w w' → OwnB w' w.heap.size v (S.L.sh3.out st) → K v w') :
    loopS (σ := Sl × Int) (fun s70 w again71 =>
            cond (decide (s70.2 < 8))
              (semS Tryd.prog (Instr.index 35 (.agg #[(.int .u64 st.a), (.int .u64 st.b), (.int .u64 st.c), (.int .u64 st.d), (.int .u64 st.e), (.int .u64 st.f), (.int .u64 st.g), (.int .u64 st.h)]) (.int .i64 s70.2)) (.one (.int .u64)) (fun x72 w =>
              loopS (σ := Sl × Int) (fun s73 w again74 =>
                cond (decide (s73.2 ≥ 0))
                  (semS Tryd.prog (binS .shr 12 (.tmp 69) (.tmp 70) (.int .u64 x72) (.int .i64 s73.2)) (.one (.int .u64)) (fun x75 w =>
                  semS Tryd.prog (Instr.buildSlice 24 1 #[(0, (.int .u8 (IntKind.wrap .u8 x75)))]) (.one .slc) (fun x76 w =>
                  semS Tryd.prog (Builtin.append_ #[24, 24] 24 #[(.slice s73.1.a s73.1.len s73.1.cap), (.slice x76.a x76.len x76.cap)]) (.one .slc) (fun r77 w =>
                  again74 (r77, IntKind.wrap .i64 (s73.2 - 8)) w) w) w) w)
                  (again71 (s73.1, IntKind.wrap .i64 (s70.2 + 1)) w)) (s70.1, 56) w) w)
              (K s70.1 w)) (⟨none, 0, 0⟩, 0) w := by
  have hl8 : st.list.length = 8 := rfl
  refine loop_i (fun (x : Sl × Int) w' => ∃ i : Nat, i ≤ 8 ∧ x.2 = i ∧ Ext w w' ∧ OwnB w' w.heap.size x.1 ((st.list.take i).flatMap fun x => S.be 8 x.toNat)) (fun x _ => 8 - x.2.toNat) ⟨0, by omega, rfl, Fr.refl _ _, Own.nilSl _ _ _⟩ ?_
  rintro ⟨u, i'⟩ w4 again2 ⟨i, hi, hxi, e4, o4⟩ hag
  dsimp only at hxi o4 ⊢
  subst hxi
  refine cond_i (fun hlt => ?_) (fun hge => ?_)
  · have hi' : i < st.list.length := by simp at hlt; exact (by omega : i < 8)
    have hx : st.list[i]? = some (st.list.getD i 0) := by simp [hi']
    have hxo := hok _ (List.mem_of_getElem? hx)
    generalize st.list.getD i 0 = x at hx hxo
    have hpre : ((st.list.take i).flatMap fun x => S.be 8 x.toNat).length = 8 * i := by
      have : ∀ l : List Int, (l.flatMap fun x => S.be 8 x.toNat).length = 8 * l.length := fun l => by
        induction l with
        | nil => rfl
        | cons a l ih => simp only [List.flatMap_cons, List.length_append, S.be_length, List.length_cons, ih]; omega
      rw [this]; simp; omega
    have htk : (st.list.take (i + 1)).flatMap (fun x => S.be 8 x.toNat) = (st.list.take i).flatMap (fun x => S.be 8 x.toNat) ++ S.be 8 x.toNat := by rw [List.take_add_one, hx, List.flatMap_append]; simp
    generalize (st.list.take i).flatMap (fun x => S.be 8 x.toNat) = pr at o4 hpre htk
    refine ixL_i (cs := wl st) (l := .int .u64) (x := x) (by omega) (by omega) (by simp [hx, Lf.enc]) ?_
    refine loop_i (fun (y : Sl × Int) w' => ∃ k : Nat, k ≤ 8 ∧ y.2 = 8 * ((k : Int) - 1) ∧ Ext w w' ∧ OwnB w' w.heap.size y.1 (pr ++ S.be (8 - k) (x.toNat / 256 ^ k))) (fun y _ => (y.2 + 8).toNat) ⟨8, by omega, by simp, e4, by simpa [S.be] using o4⟩ ?_
    rintro ⟨y, j⟩ w5 again3 ⟨k, hk, hj, e5, o5⟩ hag3
    dsimp only at hj o5 ⊢
    subst hj
    refine cond_i (fun hlt2 => ?_) (fun hge2 => ?_)
    · have hk1 : 1 ≤ k := by simp at hlt2; omega
      refine shr_i (by omega) ?_
      have hsh : shrI .u64 x (8 * ((k : Int) - 1)) = x / 256 ^ (k - 1) := by
        rw [shrI_lit _ _ _ (by show (8 * ((k : Int) - 1)).toNat ≤ 64; omega), show (8 * ((k : Int) - 1)).toNat = 8 * (k - 1) by omega, Int.pow_mul]
        rfl
      rw [hsh]
      refine append1_i (UInt8.ofNat (x.toNat / 256 ^ (k - 1))) (byte_of hxo.1) o5 (by simp [S.be_length]; omega) e5.size fun y6 w6 f6 o6 _ => ?_
      refine hag3 _ w6 ⟨k - 1, by omega, ?_, Ext.own e5 f6 fun i hi => (o5.inB hi).1, ?_⟩ ?_
      · simp only [wrap_i64 (x := 8 * ((k : Int) - 1) - 8) (by omega) (by omega)]; omega
      · have hsft := S.be_shift (8 - k) (k - 1) x.toNat
        rw [show k - 1 + 1 = k by omega, show 8 - k + 1 = 8 - (k - 1) by omega] at hsft
        rw [hsft, ← List.append_assoc]; exact o6
      · simp only [wrap_i64 (x := 8 * ((k : Int) - 1) - 8) (by omega) (by omega)]; omega
    · have hk0 : k = 0 := by simp at hge2; omega
      subst hk0
      refine hag _ w5 ⟨i + 1, by omega, ?_, e5, ?_⟩ ?_
      · simp only [wrap_i64 (x := (i : Int) + 1) (by omega) (by omega)]; omega
      · rw [htk]; simpa using o5
      · simp only [wrap_i64 (x := (i : Int) + 1) (by omega) (by omega)]; omega
  · have hi8 : i = 8 := by simp at hge; omega
    subst hi8
    rw [List.take_of_length_le (Nat.le_of_eq hl8)] at o4
    exact hK u w4 e4 o4

theorem sumTail_s {z gh : Nat} {t r : Sl} {all : List UInt8} {K : Sl → World → Prop} {w0 w : World} {cs : List Value} (e0 : Ext w0 w) (ht0 : Tabs w0) (hh : Var w0 gh (cs ++ [.slice r.a r.len r.cap, .int .u64 (all.length : Int)])) (hcs : cs.length = 8) (hlen : all.length ≤ 1000000000)
    (h0 : EndAt w w0.heap.size z t (S.L.sh3.fold S.L.sh3.first all (all.length / 128)) (all.drop (128 * (all.length / 128)) ++ [128]))
    (hK : ∀ v w', Ext w0 w' → OwnB w' w0.heap.size v (S.L.sh3.sum all) → K v w') : f13_t1 (at_ z 0) (some (at_ gh 0)) K w := by
  unfold f13_t1
  have hsum := S.L.sum_rest all
  have hstok := S.L.fold_ok S.L.sh3.first all S.L.first_ok (all.length / 128)
  have hrl : (all.drop (128 * (all.length / 128))).length = all.length % 128 := by rw [List.length_drop]; omega
  generalize S.L.sh3.fold S.L.sh3.first all (all.length / 128) = st at h0 hsum hstok
  generalize all.drop (128 * (all.length / 128)) = rest at h0 hsum hrl
  have hzB := h0.base
  have hgap := gap2 all.length
  refine loop_i (fun (_ : Unit) w' => ∃ (j : Nat) (t : Sl), j ≤ S.L.sh3.gap all.length ∧ Ext w0 w' ∧ EndAt w' w0.heap.size z t st (rest ++ [128] ++ List.replicate j 0)) (fun _ w' => S.L.sh3.gap all.length + all.length % 128 + 1 - (match w'.cell? (at_ z 8) with | some (.slice _ n _) => n | _ => 0)) ⟨0, t, by omega, e0, by simpa using h0⟩ ?_
  rintro _ w1 again ⟨j, t1, hj, e1, h1⟩ hag
  have hl1 := OwnB.len h1.own
  simp only [List.length_append, List.length_cons, List.length_nil, List.length_replicate, hrl] at hl1
  refine ld1_i (l := .slc) (o := 8) t1 h1.var rfl ?_
  have htm : Int.tmod (t1.len : Int) 128 = ((t1.len % 128 : Nat) : Int) := by rw [Int.tmod_eq_emod_of_nonneg (by omega)]; rfl
  rw [htm]
  refine cond_i (fun hne => ?_) (fun heq => ?_)
  · have hne' : t1.len % 128 ≠ 112 := by simp at hne; omega
    have hj' : j < S.L.sh3.gap all.length := by omega
    refine ld1_i (l := .slc) (o := 8) t1 h1.var rfl ?_
    refine buildB_i [0] rfl rfl (by omega) fun x w2 e2 o2 => ?_
    refine end_push 0 rfl h1 (by simp; omega) e1.size e2 o2.rd fun t3 w3 f3 h3 => ?_
    have hc1 : w1.cell? (at_ z 8) = some (.slice t1.a t1.len t1.cap) := h1.var.cell rfl
    have hc3 : w3.cell? (at_ z 8) = some (.slice t3.a t3.len t3.cap) := h3.var.cell rfl
    have hl3 := OwnB.len h3.own
    simp only [List.length_append, List.length_cons, List.length_nil, List.length_replicate, hrl] at hl3
    refine hag () w3 ⟨j + 1, t3, by omega, Fr.ext_base e1 f3 (Nat.le_refl _), by rw [List.replicate_succ', ← List.append_assoc]; exact h3⟩ ?_
    rw [hc1, hc3]; simp only; omega
  · have he : t1.len % 128 = 112 := by simp at heq; omega
    have hj' : j = S.L.sh3.gap all.length := by omega
    subst hj'
    clear hag heq
    refine ld1_i (l := .slc) (o := 8) t1 h1.var rfl ?_
    refine appendZB_i h1.own (by omega) (by simp; omega) e1.size fun t2 w2 f2 o2 hin => ?_
    rw [show (8 : Int).toNat = 8 by rfl] at o2
    have hz2 : ¬ t2.inB z := fun hk => by
      rcases hin z hk with h3 | h3
      · exact h1.apart h3
      · have := h1.var.lt; omega
    refine st1_i (o := 8) (h1.var.fr f2 h1.apart) (by simp [S.Sha.St.list]) rfl fun w3 f3 v3 => ?_
    have h3 : EndAt w3 w0.heap.size z t2 st (rest ++ [128] ++ List.replicate (S.L.sh3.gap all.length) 0 ++ List.replicate 8 0) := ⟨hzB, v3, o2.fr f3 fun a ha hk => hz2 ⟨a, ha, hk⟩, hz2⟩
    have e3 : Ext w0 w3 := Fr.own1 (Ext.own e1 f2 fun i hi => (h1.own.inB hi).1) f3 hzB
    clear v3 f3 f2 o2 hin h1 e1 hl1 htm he
    generalize hpre : rest ++ [128] ++ List.replicate (S.L.sh3.gap all.length) 0 ++ List.replicate 8 0 = pre at h3
    refine loop_i (fun (x : Int) w' => ∃ (k : Nat) (t : Sl), k ≤ 8 ∧ x = 8 * ((k : Int) - 1) ∧ Ext w0 w' ∧ EndAt w' w0.heap.size z t st (pre ++ S.be (8 - k) (8 * all.length / 256 ^ k))) (fun x _ => (x + 8).toNat) ⟨8, t2, by omega, by simp, e3, by simpa [S.be] using h3⟩ ?_
    rintro x w4 again ⟨k, t4, hk, rfl, e4, h4⟩ hag
    have hprl : pre.length = all.length % 128 + 1 + S.L.sh3.gap all.length + 8 := by rw [← hpre]; simp; omega
    refine cond_i (fun hlt => ?_) (fun hge => ?_)
    · have hk1 : 1 ≤ k := by simp at hlt; omega
      refine ⟨fun x => Ext w4 x, Ext.drew _, ?_⟩
      refine ld1Q_i (l := .slc) (o := 8) t4 (fun x hx => h4.var.ext hx) rfl ?_
      refine nil_i rfl ?_
      refine ld1Q_i (l := .int .u64) (o := 0 + 9) (all.length : Int) (fun x hx => (hh.ext e4).ext hx) (by rw [List.getElem?_append_right (by omega), hcs]; rfl) ?_
      refine shrQ_i (by omega) ?_
      have hsh : shrI .u64 (IntKind.wrap .u64 (8 * (all.length : Int))) (8 * ((k : Int) - 1)) = ((8 * all.length / 256 ^ (k - 1) : Nat) : Int) := by
        rw [wrap_u64 (by omega) (by omega), shrI_lit _ _ _ (by show (8 * ((k : Int) - 1)).toNat ≤ 64; omega), show (8 * ((k : Int) - 1)).toNat = 8 * (k - 1) by omega, Int.pow_mul]
        simp
      rw [hsh]
      refine buildB_i [UInt8.ofNat (8 * all.length / 256 ^ (k - 1))] (by rw [show IntKind.wrap .u8 ((8 * all.length / 256 ^ (k - 1) : Nat) : Int) = ((UInt8.ofNat (8 * all.length / 256 ^ (k - 1))).toNat : Int) by rw [wrap_u8_mod]; simp]; rfl) rfl (by omega) fun x5 w5 e5 o5 => ?_
      have E5 := (Ext.drew w4).trans e5
      refine more_i E5 ?_
      refine end_push _ rfl h4 (by simp [S.be_length]; omega) e4.size E5 o5.rd fun t6 w6 f6 h6 => ?_
      refine hag _ w6 ⟨k - 1, t6, by omega, ?_, Fr.ext_base e4 f6 (Nat.le_refl _), ?_⟩ ?_
      · rw [wrap_i64 (by omega) (by omega)]; omega
      · have hsft := S.be_shift (8 - k) (k - 1) (8 * all.length)
        rw [show k - 1 + 1 = k by omega, show 8 - k + 1 = 8 - (k - 1) by omega] at hsft
        rw [hsft, ← List.append_assoc]; exact h6
      · rw [wrap_i64 (by omega) (by omega)]; omega
    · have hk0 : k = 0 := by simp at hge; omega
      subst hk0
      clear hag hge
      have hps : pre ++ S.be (8 - 0) (8 * all.length / 256 ^ 0) = rest ++ S.L.tail2 all.length := by rw [← hpre]; simp only [S.L.tail2]; rw [S.L.be16 (by omega)]; simp
      rw [hps] at h4
      have hpl : (rest ++ S.L.tail2 all.length).length % 128 = 0 ∧ (rest ++ S.L.tail2 all.length).length ≤ 1000000 := by
        rw [← hps, List.length_append, S.be_length, hprl]; omega
      generalize rest ++ S.L.tail2 all.length = ps at h4 hsum hpl
      refine ld1_i (l := .slc) (o := 8) t4 h4.var rfl ?_
      refine chunk_s (n := 128) (by omega) fun g1 g2 w5 e5 hg1 hg2 v1 v2 => ?_
      have e05 := e4.trans e5
      have h5 := h4.ext e5
      have ht4l := e4.size
      have hz4 := h4.var.lt
      refine range_i (fn := Tryd.f24) Tryd.func24 (by kernel_rfl) (by kernel_rfl) ?_
      intro l D oR oB W1 E1 hl hD hlD hoR hoD hyield
      have hsz5 := e5.size
      have hg1l := v1.lt
      have hg2l := v2.lt
      refine chunk1_s (n := 128) (s := t4) (bs := ps) (fun i w' => Fr (fun k => k = z ∨ k = l) W1 w' ∧ EndAt w' w0.heap.size z t4 (S.L.sh3.fold st ps i) ps ∧ w'.heap[l]? = some oR) (by omega) (by omega) (by omega) ⟨Fr.refl _ _, h5.ext E1, hoR⟩ ?_ ?_ ?_
      · rintro i w' ⟨f1, h6, hr⟩
        refine ⟨(v1.ext E1).fr f1 (by omega), (v2.ext E1).fr f1 (by omega), h6.own.rd, f1.then (Ext.drew _), h6.ext (Ext.drew _), hr⟩
      · rintro i u w' R ⟨f1, h6, hr⟩ hlt hu huin hR
        refine hyield [.slice u.a u.len u.cap] w' _ hr ?_
        refine ⟨hr, ?_⟩
        have hlz : l ≠ z := by omega
        have f2 := fr_putObj w' l oB
        have hlw : l < w'.heap.size := (Array.getElem?_eq_some_iff.1 hr).1
        have hnl : ∀ k, t4.inB k → k ≠ l := fun k hk => by have := (h4.own.inB hk).2; omega
        have h7 := h6.fr f2 (fun h => hlz h.symm) hnl
        have hu7 : Bts (w'.putObj l oB) u ((ps.drop (128 * i)).take 128) := hu.fr f2 fun a ha hk => hnl _ (huin _ ⟨a, ha, rfl⟩) hk
        have ht7 : Tabs (w'.putObj l oB) := ht0.ext ((Ext.own (e05.trans E1) f1 fun k hk => by omega).putObj oB (by omega))
        refine take_s h7.var hu7 (by simp; omega) ht7.2 fun w8 f8 v8 => ?_
        have hfs : S.L.sh3.comp (S.L.sh3.fold st ps i) ((ps.drop (128 * i)).take 128) = S.L.sh3.fold st ps (i + 1) := rfl
        rw [hfs] at v8
        have hb8 : w8.heap[l]? = some oB := f8.heapAt (putObj_at hr) hlz
        refine ⟨hb8, hR _ ?_⟩
        have f9 := fr_putObj w8 l oR
        refine ⟨((f1.trans f2 fun k _ hk => .inr hk).trans f8 fun k _ hk => .inl hk).trans f9 fun k _ hk => .inr hk, ?_, putObj_at hb8⟩
        refine ⟨hzB, v8.fr f9 (fun h => hlz h.symm), ?_, h4.apart⟩
        exact (h7.own.fr f8 fun a ha hk => h4.apart ⟨a, ha, hk⟩).fr f9 fun a ha hk => hnl _ ⟨a, ha, rfl⟩ hk
      · rintro i w6 ⟨f1, h6, hr⟩ hge hlast
        have hi : i = ps.length / 128 := by omega
        subst hi
        refine ⟨hr, fun oX => ?_⟩
        have hlz : l ≠ z := by omega
        have f2 := fr_putObj w6 l oX
        have hnl : ∀ k, t4.inB k → k ≠ l := fun k hk => by have := (h4.own.inB hk).2; omega
        have h7 := h6.fr f2 (fun h => hlz h.symm) hnl
        have hok := S.L.fold_ok st ps hstok (ps.length / 128)
        generalize S.L.sh3.fold st ps (ps.length / 128) = fin at h7 hok hsum
        refine ld8_i (s := fin) h7.var ?_
        have e7 : Ext w0 (w6.putObj l oX) := ((Ext.own (e05.trans E1) f1 fun k hk => by omega)).putObj oX (by omega)
        have hDw : (w6.putObj l oX).heap[D]? = some (.deferred (some [])) := by
          rw [putObj_ne _ (fun h => hlD h.symm)]
          exact f1.heapAt hoD (by omega)
        have hDl := (Array.getElem?_eq_some_iff.1 hDw).1
        refine sumOut_s (t := 35) (z := z) (tl := []) (K := fun v w => w.heap[D]? = some (.deferred (some [])) ∧ K v (w.putObj D (.deferred none))) hok fun v w8 e8 o8 => ?_
        refine ⟨e8.heapAt hDw id, ?_⟩
        have f9 := fr_putObj w8 D (.deferred none)
        refine hK v _ ((e7.trans e8).putObj _ (by omega)) ?_
        rw [hsum]
        exact (o8.fr f9 fun a ha hk => by have := (o8.inB ⟨a, ha, rfl⟩).1; omega).base e7.size
end Go.Proofs.YtjlmaamhnkhokaaDoor.L
