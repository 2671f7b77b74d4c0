/- Layer 12 (descr): lists of descriptors are read, by the document. -/
import Derived.Test.YtgjbajjggmpmmaaDes12i
set_option linter.unusedSimpArgs false
set_option linter.unusedVariables false
namespace Go.Proofs.Ytgjbajjggmpmmaa
open Go Go.Eng
theorem rget_s {s : Sl} {bs : List UInt8} {off size : Nat} {K : Int → World → Prop} {w : World} (hs : Bts w s bs) (hz : size ≤ 8) (hl : off + size ≤ bs.length) (hlen : bs.length ≤ 100000)
    (hK : ∀ r : Int, (r = (S.num bs off size : Int) ∨ r = -1 ∧ 4611686018427387904 ≤ S.num bs off size) → K r w) :
    callS Try.prog 40 #[.slice s.a s.len s.cap, .int .i64 (off : Int), .int .i64 (size : Int)] [.one (.int .i64)] K w := by
  refine f40_ok ?_
  unfold f40
  unfold S.num at hK
  have hbl := Bts.len hs
  have hl8 : ((bs.drop off).take size).length = size := by simp; omega
  have hget : ∀ k, k < size → ((bs.drop off).take size)[k]? = bs[off + k]? := fun k hk => by
    rw [List.getElem?_take, if_pos hk, List.getElem?_drop]
  refine loop_i (fun (x : Int × Int) w' => w' = w ∧ ∃ k : Nat, k ≤ size ∧ x.2 = ((off + k : Nat) : Int) ∧ x.1 = (S.beN (((bs.drop off).take size).take k) : Int) ∧ S.beN (((bs.drop off).take size).take k) ≤ 4611686018427388159) (fun x _ => off + size - x.2.toNat) ⟨rfl, 0, by omega, rfl, rfl, by simp [S.beN]⟩ ?_
  rintro ⟨n', i'⟩ w' again ⟨rfl, k, hk, hi, hn, hb⟩ hag
  dsimp only at hi hn ⊢
  subst hi
  subst hn
  rw [wrap_i64 (x := (off : Int) + (size : Int)) (by omega) (by omega)]
  refine cond_i (fun hlt => ?_) (fun hge => ?_)
  · have hk8 : k < size := by have : ((off + k : Nat) : Int) < (off : Int) + (size : Int) := of_decide_eq_true hlt
                              omega
    have hsucc : ((bs.drop off).take size).take (k + 1) = ((bs.drop off).take size).take k ++ [((bs.drop off).take size)[k]'(by omega)] := List.take_succ_eq_append_getElem (by omega)
    refine cond_i (fun hbig => ?_) (fun hsm => ?_)
    · have hbig' : S.beN (((bs.drop off).take size).take k) > 18014398509481984 := by
        have : (S.beN (((bs.drop off).take size).take k) : Int) > 18014398509481984 := of_decide_eq_true hbig
        omega
      refine hK (-1) (.inr ⟨rfl, ?_⟩)
      have h1 := S.beN_append (((bs.drop off).take size).take k) (((bs.drop off).take size).drop k)
      rw [List.take_append_drop] at h1
      have h2 : 256 ^ 1 ≤ 256 ^ (((bs.drop off).take size).drop k).length := Nat.pow_le_pow_right (by omega) (by rw [List.length_drop]; omega)
      have h3 := Nat.mul_le_mul (Nat.le_of_lt hbig') h2
      omega
    · have hsm' : S.beN (((bs.drop off).take size).take k) ≤ 18014398509481984 := by
        have : ¬ (S.beN (((bs.drop off).take size).take k) : Int) > 18014398509481984 := of_decide_eq_false hsm
        omega
      have hx := hget k hk8
      rw [List.getElem?_eq_getElem (by omega)] at hx
      have hbv := (((bs.drop off).take size)[k]'(by omega)).toNat_lt
      refine elem_i (l := .int .u8) (x := ((((bs.drop off).take size)[k]'(by omega)).toNat : Int)) hs (by omega) (by omega) ?_ ?_
      · rw [Int.toNat_natCast, List.getElem?_map, ← hx]; rfl
      · have hs1 := S.beN_snoc (((bs.drop off).take size).take k) (((bs.drop off).take size)[k]'(by omega))
        rw [← hsucc] at hs1
        generalize ((bs.drop off).take size)[k]'(by omega) = b at hbv hs1
        rw [wrap_i64 (x := (S.beN (((bs.drop off).take size).take k) : Int) * 256) (by omega) (by omega), wrap_i64 (x := (b.toNat : Int)) (by omega) (by omega), wrap_i64 (x := (S.beN (((bs.drop off).take size).take k) : Int) * 256 + (b.toNat : Int)) (by omega) (by omega)]
        refine hag _ w' ⟨rfl, k + 1, by omega, ?_, ?_, ?_⟩ ?_
        · simp only [wrap_i64 (x := ((off + k : Nat) : Int) + 1) (by omega) (by omega)]; omega
        · show _ = ((S.beN _ : Nat) : Int); rw [hs1]; omega
        · rw [hs1]; omega
        · simp only [wrap_i64 (x := ((off + k : Nat) : Int) + 1) (by omega) (by omega)]; omega
  · have hk8 : k = size := by have : ¬ ((off + k : Nat) : Int) < (off : Int) + (size : Int) := of_decide_eq_false hge
                              omega
    subst hk8
    exact hK _ (.inl (by rw [List.take_of_length_le (Nat.le_of_eq hl8)]))
theorem rget4_s {s : Sl} {bs : List UInt8} {off : Nat} {K : Int → World → Prop} {w : World} (hs : Bts w s bs) (hl : off + 4 ≤ bs.length) (hlen : bs.length ≤ 100000) (hK : K (S.num bs off 4 : Int) w) :
    callS Try.prog 40 #[.slice s.a s.len s.cap, .int .i64 (off : Int), .int .i64 4] [.one (.int .i64)] K w :=
  rget_s (size := 4) hs (by omega) hl hlen fun r hr => by
    have := S.num4 bs off
    rcases hr with rfl | ⟨_, h⟩
    · exact hK
    · omega
theorem rread_s {kind : Int} {p1 : Sl} {b : List UInt8} {K : Int → Int → Int → Int → Int → Int → ByteArray → Sl → Sl → Sl → Sl → Bool → World → Prop} {w : World} (hs : Bts w p1 b) (hlen : b.length ≤ 100000) (hk : 0 ≤ kind ∧ kind ≤ 4)
    (hBad : S.rd kind b = false → ∀ (d : DM) w', Ext w w' → K d.kind d.alg d.size d.blk d.off d.loc (str d.name) d.salt.1 d.dig.1 d.key.1 d.val.1 false w')
    (hOk : S.rd kind b = true → ∀ (d : DM) w', Ext w w' → d.pure = S.desAt kind b → (∀ w0, Bts w0 p1 b → d.Ok w0) → K d.kind d.alg d.size d.blk d.off d.loc (str d.name) d.salt.1 d.dig.1 d.key.1 d.val.1 true w') :
    callS Try.prog 41 #[.int .i64 kind, .slice p1.a p1.len p1.cap] [.agg lD, .one .bool] K w := by
  refine f41_ok ?_
  unfold f41
  have hbl := Bts.len hs
  have hcap := hs.cap
  refine alloc_i fun g1 w1 e1 hg1 v1 => ?_
  have v1 : Var w1 g1 zeroD.cells := v1
  have hg1l := v1.lt
  have bad : S.rd kind b = false → ∀ (w2 : World) (cs : List Value), Ext w w2 → Var w2 g1 cs → cs.length = 11 → semU Try.prog (Instr.storeAt 28 (.pointer (some (at_ g1 0))) (.agg #[(.int .i64 0), (.int .i64 0), (.int .i64 0), (.int .i64 0), (.int .i64 0), (.int .i64 0), (.string ByteArray.empty), (.slice none 0 0), (.slice none 0 0), (.slice none 0 0), (.slice none 0 0)])) (fun w =>
      ∃ v2, (loadVar 28 (at_ g1 0)).run Try.prog w = .ok v2 w ∧ decR [(.agg lD), (.one .bool)] (.tuple #[v2, (.bool false)]) K fun r => r w) w2 := fun hr w2 cs e2 v2 hl => by
    refine stD_i (d := zeroD) v2 hl fun w3 f3 v3 => ?_
    exact resDB_i v3 (hBad hr zeroD w3 (Fr.own1 e2 f3 hg1))
  refine cond_i (fun hc => ?_) (fun hc => ?_)
  · have h48 : b.length < 48 := by have : (p1.len : Int) < 48 := of_decide_eq_true hc
                                   omega
    exact bad (by unfold S.rd; rw [decide_eq_false (show ¬ 48 ≤ b.length by omega)]; rfl) w1 _ e1 v1 rfl
  have h48 : 48 ≤ b.length := by have : ¬ (p1.len : Int) < 48 := of_decide_eq_false hc
                                 omega
  have hs1 := hs.ext e1
  have n0 := S.num4 b 0
  have n12 := S.num4 b 12
  have n24 := S.num4 b 24
  refine rget4_s (off := 0) hs1 (by omega) hlen ?_
  refine rget_s (off := 4) (size := 8) hs1 (by omega) (by omega) hlen fun r4 hr4 => ?_
  refine rget4_s (off := 12) hs1 (by omega) hlen ?_
  refine rget_s (off := 16) (size := 8) hs1 (by omega) (by omega) hlen fun r6 hr6 => ?_
  refine rget4_s (off := 24) hs1 (by omega) hlen ?_
  refine alloc_i fun g3 w2 e2 hg3 v2 => ?_
  let D0 : DM := ⟨kind, S.num b 0 4, r4, S.num b 12 4, r6, S.num b 24 4, [], (Sl.nil, []), (Sl.nil, []), (Sl.nil, []), (Sl.nil, [])⟩
  refine stD_i (d := D0) v2 rfl fun w3 f3 v3 => ?_
  have E3 : Ext w1 w3 := Fr.own1 e2 f3 hg3
  have s1 := e1.size
  have hg3l := v3.lt
  have hne1 : g1 ≠ g3 := by omega
  refine alloc_i fun g18 w6 e6 hg18 v6 => ?_
  have v6 : Var w6 g18 (fives (fun _ => Sl.nil) 0) := v6
  have hg18l := v6.lt
  have E16 := E3.trans e6
  have E6 := e1.trans E16
  have v36 := v3.ext e6
  have v16 := v1.ext E16
  refine loop_i (fun (st : Int × Int) w' => ∃ (i : Nat) (σ : Nat → Sl), i ≤ 5 ∧ st = (((S.tf b i : Nat) : Int), (i : Int)) ∧ S.tf b i ≤ b.length ∧ Fr (fun k => k = g18) w6 w' ∧ Var w' g18 (fives σ i) ∧ ∀ j, j < i → ∀ w0, Bts w0 p1 b → Bts w0 (σ j) (S.tt b j)) (fun st _ => 5 - st.2.toNat) ⟨0, fun _ => Sl.nil, by omega, rfl, h48, Fr.refl _ _, v6, fun j hj => by omega⟩ ?_
  rintro st w7 again2 ⟨i, σ, hi, rfl, hfit, f7, v7, hσ⟩ hag2
  dsimp only
  have E7 : Ext w w7 := Fr.own1 E6 f7 (by have := E3.size; omega)
  have v37 : Var w7 g3 _ := v36.fr f7 (by omega)
  have v17 : Var w7 g1 _ := v16.fr f7 (by have := E3.size; omega)
  refine cond_i (fun hlt => ?_) (fun hge => ?_)
  · have hi5 : i < 5 := by have : (i : Int) < 5 := of_decide_eq_true hlt
                           omega
    have hs7 := hs.ext E7
    rw [show IntKind.wrap .i64 (28 + IntKind.wrap .i64 (4 * (i : Int))) = ((28 + 4 * i : Nat) : Int) by rw [wrap_i64 (x := 4 * (i : Int)) (by omega) (by omega), wrap_i64 (by omega) (by omega)]; omega]
    refine rget4_s (off := 28 + 4 * i) hs7 (by omega) hlen ?_
    have hn4 := S.num4 b (28 + 4 * i)
    have htn : S.num b (28 + 4 * i) 4 = S.tn b i := rfl
    rw [htn] at hn4 ⊢
    rw [wrap_i64 (x := (p1.len : Int) - ((S.tf b i : Nat) : Int)) (by omega) (by omega)]
    refine cond_i (fun hgt => ?_) (fun hle => ?_)
    · have h2 : ((S.tn b i : Nat) : Int) > (p1.len : Int) - ((S.tf b i : Nat) : Int) := of_decide_eq_true hgt
      refine bad ?_ w7 _ E7 v17 rfl
      unfold S.rd
      have h5 := S.tf_5 b (i := i) (by omega)
      have h6 : S.tf b (i + 1) = S.tf b i + S.tn b i := rfl
      rw [decide_eq_false (show ¬ S.tf b 5 ≤ b.length by omega), Bool.and_false]; rfl
    · have h2 : ¬ ((S.tn b i : Nat) : Int) > (p1.len : Int) - ((S.tf b i : Nat) : Int) := of_decide_eq_false hle
      have hin : S.tf b i + S.tn b i ≤ b.length := by omega
      rw [wrap_i64 (x := ((S.tf b i : Nat) : Int) + ((S.tn b i : Nat) : Int)) (by omega) (by omega)]
      refine sl2_i (lo := ((S.tf b i : Nat) : Int)) (by omega) (by omega) (by omega) ?_
      rw [Int.toNat_natCast, show (((S.tf b i : Nat) : Int) + ((S.tn b i : Nat) : Int)).toNat = S.tf b i + S.tn b i by omega]
      have hcut : ∀ w0, Bts w0 p1 b → Bts w0 (p1.cut 1 (S.tf b i) (S.tf b i + S.tn b i)) (S.tt b i) := fun w0 h0 => by
        have := Bts.cut h0 (l := S.tf b i) (hi := S.tf b i + S.tn b i) (by omega) (by omega)
        rwa [show S.tf b i + S.tn b i - S.tf b i = S.tn b i by omega] at this
      generalize p1.cut 1 (S.tf b i) (S.tf b i + S.tn b i) = v at hcut ⊢
      refine stA_i (o := 0) v7 (by omega) (by omega) (by rw [Int.toNat_natCast]; show 0 + i < 5; omega) rfl fun w9 f9 v9 => ?_
      rw [Int.toNat_natCast, Nat.zero_add, show Value.slice v.a v.len v.cap = slV v from rfl, fives_set hi5] at v9
      rw [wrap_i64 (x := (i : Int) + 1) (by omega) (by omega)]
      refine hag2 _ w9 ⟨i + 1, _, by omega, ?_, hin, f7.trans' f9, v9, fun j hj => ?_⟩ ?_
      · rw [show (i : Int) + 1 = ((i + 1 : Nat) : Int) by omega, ← Int.natCast_add]; rfl
      · by_cases hji : j = i
        · subst hji
          rw [if_pos rfl]; exact hcut
        · rw [if_neg hji]
          exact hσ j (by omega)
      · show 5 - ((i : Int) + 1).toNat < 5 - ((i : Int)).toNat
        omega
  have hi5 : i = 5 := by have : ¬ (i : Int) < 5 := of_decide_eq_false hge
                         omega
  subst hi5
  have L : ∀ {w' : World} (j : Nat) (hj : j < 5), Var w' g18 (fives σ 5) → ∀ {K' : Sl → World → Prop}, K' (σ j) w' → semS Try.prog (Instr.indexAt 83 (.pointer (some (at_ g18 0))) (.int .i64 (j : Int))) (.one .adr) (fun a w => semS Try.prog (Instr.loadAt 25 (.pointer (some a))) (.one .slc) K' w) w' := fun {w'} j hj v K' h =>
    elA_i (l := .slc) (x := σ j) (o := 0) v (by omega) (by omega) (by rw [Int.toNat_natCast, Nat.zero_add, fives_get hj]; rfl) h
  refine L 0 (by omega) v7 ?_
  refine b2s_i ((hσ 0 (by omega) w hs).ext E7) ?_
  refine st1_i (g := g3) (o := 6) v37 (show 6 < 11 by decide) rfl fun w9 f9 v9 => ?_
  have u9 := v7.fr f9 (by omega)
  refine L 1 (by omega) u9 ?_
  refine st1_i (g := g3) (o := 7) v9 (show 7 < 11 by decide) rfl fun w10 f10 v10 => ?_
  have u10 := u9.fr f10 (by omega)
  refine L 2 (by omega) u10 ?_
  refine st1_i (g := g3) (o := 8) v10 (show 8 < 11 by decide) rfl fun w11 f11 v11 => ?_
  have u11 := u10.fr f11 (by omega)
  refine L 3 (by omega) u11 ?_
  refine st1_i (g := g3) (o := 9) v11 (show 9 < 11 by decide) rfl fun w12 f12 v12 => ?_
  have u12 := u11.fr f12 (by omega)
  refine L 4 (by omega) u12 ?_
  refine st1_i (g := g3) (o := 10) v12 (show 10 < 11 by decide) rfl fun w13 f13 v13 => ?_
  have F13 : Fr (fun k => k = g3) w7 w13 := (((f9.trans' f10).trans' f11).trans' f12).trans' f13
  have E13 : Ext w w13 := Fr.own1 E7 F13 (by omega)
  let D : DM := ⟨kind, S.num b 0 4, r4, S.num b 12 4, r6, S.num b 24 4, S.tt b 0, (σ 1, S.tt b 1), (σ 2, S.tt b 2), (σ 3, S.tt b 3), (σ 4, S.tt b 4)⟩
  have v13 : Var w13 g3 D.cells := v13
  have v113 : Var w13 g1 zeroD.cells := v17.fr F13 hne1
  have htl : ∀ j, (S.tt b j).length ≤ b.length := fun j => by unfold S.tt; rw [List.length_take, List.length_drop]; omega
  have t0 := htl 0
  have t1 := htl 1
  have t2 := htl 2
  have t3 := htl 3
  have t4 := htl 4
  have hDsm : D.Sm := ⟨by show (S.tt b 0).length ≤ _; omega, by show (S.tt b 1).length ≤ _; omega, by show (S.tt b 2).length ≤ _; omega, by show (S.tt b 3).length ≤ _; omega, by show (S.tt b 4).length ≤ _; omega⟩
  have hDln : D.Ln := ⟨Bts.len (hσ 1 (by omega) w hs), Bts.len (hσ 2 (by omega) w hs), Bts.len (hσ 3 (by omega) w hs), Bts.len (hσ 4 (by omega) w hs)⟩
  have hd2 := Ext.drew w13
  have hnums : D.pure.right = true → r4 = (S.num b 4 8 : Int) ∧ r6 = (S.num b 16 8 : Int) := fun h => by
    have f := S.Des.fits h
    have h1 : 0 ≤ r4 ∧ r4 ≤ 1099511627776 := f.size
    have h2 : 0 ≤ r6 ∧ r6 ≤ 1099511627776 := f.off
    refine ⟨?_, ?_⟩
    · rcases hr4 with h | ⟨h, _⟩
      · exact h
      · omega
    · rcases hr6 with h | ⟨h, _⟩
      · exact h
      · omega
  have hDp : D.pure.right = true → D.pure = S.desAt kind b := fun h => by
    obtain ⟨h1, h2⟩ := hnums h
    show S.Des.mk _ _ r4 _ r6 _ _ _ _ _ _ = _
    rw [h1, h2]; rfl
  have hrd0 : S.rd kind b = true → D.pure = S.desAt kind b := fun h => by
    have hz := S.rd_size h
    have h1 : r4 = (S.num b 4 8 : Int) := by
      rcases hr4 with h | ⟨_, h⟩
      · exact h
      · omega
    have h2 : r6 = (S.num b 16 8 : Int) := by
      rcases hr6 with h | ⟨_, h⟩
      · exact h
      · omega
    show S.Des.mk _ _ r4 _ r6 _ _ _ _ _ _ = _
    rw [h1, h2]; rfl
  have hrd : S.rd kind b = (D.pure.right && (D.pure.body == b)) := by
    cases hb : S.rd kind b with
    | true =>
      have h1 := hrd0 hb
      unfold S.rd at hb
      rw [Bool.and_eq_true] at hb
      rw [h1]; exact hb.2.symm
    | false =>
      cases hc : (D.pure.right && (D.pure.body == b)) with
      | false => rfl
      | true =>
        have hc2 := hc
        rw [Bool.and_eq_true] at hc2
        unfold S.rd at hb
        rw [decide_eq_true h48, decide_eq_true hfit, ← hDp hc2.1, hc] at hb
        cases hb
  have hne3 : g3 ≠ g1 := fun e => hne1 e.symm
  have hcl : ∀ y, Fr (fun k => k = g1) w13 y → Ext w y := fun y hy => Fr.own1 E13 hy hg1
  refine ⟨fun y => Fr (fun k => k = g1) w13 y, hd2.fr, ?_⟩
  refine ldDQ_i (d := D) (fun y hy => v13.fr hy hne3) ?_
  refine ldDQ_i (d := D) (fun y hy => v13.fr hy hne3) ?_
  refine rdRight_s (d := D) hDln hDsm fun w14 e14 => ?_
  have e1314 := hd2.trans e14
  refine more_i e1314.fr ?_
  refine cond_i (fun hr => ?_) (fun hr => ?_)
  · have hf := S.Des.fits hr
    have okD0 : ∀ w0, Bts w0 p1 b → D.Ok w0 := fun w0 h0 => ⟨⟨by show _ ≤ kind; omega, by show kind ≤ _; omega⟩, ⟨by show _ ≤ ((S.num b 0 4 : Nat) : Int); omega, by show ((S.num b 0 4 : Nat) : Int) ≤ _; omega⟩, ⟨Int.le_trans (by decide) hf.size.1, Int.le_trans hf.size.2 (by decide)⟩, ⟨by show _ ≤ ((S.num b 12 4 : Nat) : Int); omega, by show ((S.num b 12 4 : Nat) : Int) ≤ _; omega⟩, ⟨Int.le_trans (by decide) hf.off.1, Int.le_trans hf.off.2 (by decide)⟩, ⟨by show _ ≤ ((S.num b 24 4 : Nat) : Int); omega, by show ((S.num b 24 4 : Nat) : Int) ≤ _; omega⟩, by show (S.tt b 0).length ≤ _; omega,
      hσ 1 (by omega) w0 h0, hσ 2 (by omega) w0 h0, hσ 3 (by omega) w0 h0, hσ 4 (by omega) w0 h0⟩
    have okD := okD0 w hs
    refine ldDQ_i (d := D) (fun y hy => v13.fr hy hne3) ?_
    refine b2sQ_i (fun y hy => hs.ext (hcl y hy)) ?_
    refine rbytes_s (d := D) hr (okD.ext (E13.trans e1314)) fun r15 w15 e15 o15 => ?_
    have e1315 := e1314.trans e15
    refine more2_i (fun y => Fr (fun k => k = g1) w15 y) (Fr.refl _ _) (fun y hy => e1315.fr.trans' hy) ?_
    have hr15 := OwnB.len o15
    have hel := S.Des.enc_len D.pure
    have hcut15 := Bts.cut o15.rd (l := 16) (hi := r15.len) (by omega) (by omega)
    rw [List.take_of_length_le (by rw [List.length_drop]; omega)] at hcut15
    have hbody : D.pure.enc.drop 16 = D.pure.body := by
      unfold S.Des.enc
      exact List.drop_left' (by simp [S.be_length])
    rw [hbody] at hcut15
    have hg13 := v113.lt
    have hs1314 := e1314.size
    refine slLoQ_i (lo := 16) (by omega) (by omega) ?_
    rw [show (16 : Int).toNat = 16 from rfl]
    refine b2sQ_i (fun y hy => hcut15.fr hy fun a ha h => ?_) ?_
    · have h1 := (o15.inB (Sl.cut_inB ⟨a, ha, rfl⟩)).1
      have h2 : a.block = g1 := h
      omega
    rw [str_toList, str_toList]
    refine stD_i (d := D) (v113.ext e1315) rfl fun w16 f16 v16' => ?_
    have E16' : Ext w w16 := Fr.own1 (E13.trans e1315) f16 hg1
    refine more_i f16 ?_
    unfold f41_t1
    refine resDB_i v16' ?_
    cases hb : (D.pure.body == b) with
    | true => exact hOk (by rw [hrd, hr, hb]; rfl) D w16 E16' (hDp hr) okD0
    | false => exact hBad (by rw [hrd, hr, hb]; rfl) D w16 E16'
  · refine stD_i (d := D) (v113.ext e1314) rfl fun w16 f16 v16' => ?_
    have E16' : Ext w w16 := Fr.own1 (E13.trans e1314) f16 hg1
    refine more_i (e1314.fr.trans' f16) ?_
    unfold f41_t1
    refine resDB_i v16' ?_
    exact hBad (by rw [hrd, hr]; rfl) D w16 E16'
theorem rParse_s {p0 : Sl} {b : List UInt8} {K : Sl → Int → World → Prop} {w : World} (hs : Bts w p0 b) (hlen : b.length ≤ 100000)
    (hErr : (S.pars (b.length + 1) [] b).2 ≠ 0 → ∀ w', Ext w w' → K Sl.nil (S.pars (b.length + 1) [] b).2 w')
    (hOk : (S.pars (b.length + 1) [] b).2 = 0 → ∀ v w' ds, Ext w w' → ds.map DM.pure = (S.pars (b.length + 1) [] b).1 → DsIn w' v ds → K v 0 w') :
    callS Try.prog 18 #[.slice p0.a p0.len p0.cap] [.one .slc, .one (.int .i64)] K w := by
  refine f18_ok ?_
  unfold f18
  have hbl := Bts.len hs
  have hcap := hs.cap
  generalize hRR : S.pars (b.length + 1) [] b = R at hErr hOk
  have err : ∀ e w', R = ([], e) → e ≠ 0 → Ext w w' → K Sl.nil e w' := fun e w' he hne x => by
    have := hErr (by rw [he]; exact hne) w' x
    rw [he] at this; exact this
  refine loop_i (fun (st : Sl × Int) w' => Ext w w' ∧ ∃ (a f : Nat) (ds : List DM), a ≤ b.length ∧ st.2 = a ∧ Own w' w.heap.size st.1 11 (ds.map DM.cells).flatten ∧ (∀ d ∈ ds, d.Ok w) ∧ ds.length ≤ 32 ∧ (b.drop a).length < f ∧ S.pars f (ds.map DM.pure) (b.drop a) = R ) (fun st _ => b.length - st.2.toNat)
    ⟨Fr.refl _ _, 0, b.length + 1, [], by omega, rfl, Own.nilSl _ _ 11, fun d (hd : d ∈ []) => (by cases hd), by simp, by simp, hRR⟩ ?_
  rintro ⟨out, a'⟩ w1 again ⟨e1, a, f, ds, ha, ha', ho1, hok, hds, hf, hR⟩ hag
  dsimp only at ha' ho1 ⊢
  subst ha'
  have hol : out.len = ds.length := by have := ho1.len; rw [flat_len] at this; omega
  have hdl : (b.drop a).length = b.length - a := List.length_drop
  obtain ⟨f, rfl⟩ : ∃ g, f = g + 1 := ⟨f - 1, by omega⟩
  have hpl : (ds.map DM.pure).length = ds.length := List.length_map _
  refine cond_i (fun hlt => ?_) (fun hge => ?_)
  · have hal : a < b.length := by have : (a : Int) < (p0.len : Int) := of_decide_eq_true hlt
                                  omega
    rw [S.pars, if_neg (by omega), hpl] at hR
    refine cond_i (fun h32 => ?_) (fun h32 => ?_)
    · have h : ds.length = 32 := by have h2 : (out.len : Int) = 32 := by simpa using h32
                                    omega
      rw [if_pos h] at hR
      exact err 11 w1 hR.symm (by decide) e1
    have h32' : ¬ ds.length = 32 := by
      intro h
      rw [hol, h] at h32
      simp at h32
    rw [if_neg h32'] at hR
    rw [wrap_i64 (x := (p0.len : Int) - (a : Int)) (by omega) (by omega)]
    refine cond_i (fun h16 => ?_) (fun h16 => ?_)
    · have h : (p0.len : Int) - (a : Int) < 16 := of_decide_eq_true h16
      rw [if_pos (by omega)] at hR
      exact err 10 w1 hR.symm (by decide) e1
    have h16' : ¬ (p0.len : Int) - (a : Int) < 16 := of_decide_eq_false h16
    rw [if_neg (by omega)] at hR
    have hs1 := hs.ext e1
    have n1 : S.num (b.drop a) 0 8 = S.num b a 8 := by rw [S.num_drop]; rfl
    have n2 : S.num (b.drop a) 8 8 = S.num b (a + 8) 8 := by rw [S.num_drop]
    rw [n1, n2] at hR
    refine rget_s (size := 8) hs1 (by omega) (by omega) hlen fun r3 hr3 => ?_
    by_cases hk : S.num b a 8 > 4
    · rw [if_pos hk] at hR
      refine cond_i (fun _ => err 33 w1 hR.symm (by decide) e1) (fun h => ?_)
      rw [Bool.or_eq_false_iff] at h
      have h1 : ¬ r3 < 0 := of_decide_eq_false h.1
      have h2 : ¬ r3 > 4 := of_decide_eq_false h.2
      omega
    rw [if_neg hk] at hR
    have h3 : r3 = (S.num b a 8 : Int) := by omega
    subst h3
    refine cond_i (fun h => ?_) (fun _ => ?_)
    · rw [Bool.or_eq_true] at h
      rcases h with h | h
      · have : ((S.num b a 8 : Nat) : Int) < 0 := of_decide_eq_true h
        omega
      · have : ((S.num b a 8 : Nat) : Int) > 4 := of_decide_eq_true h
        omega
    rw [wrap_i64 (x := (a : Int) + 8) (by omega) (by omega)]
    refine rget_s (off := a + 8) (size := 8) hs1 (by omega) (by omega) hlen fun r4 hr4 => ?_
    rw [wrap_i64 (x := (p0.len : Int) - (a : Int) - 16) (by omega) (by omega)]
    by_cases hn : S.num b (a + 8) 8 > (b.drop a).length - 16
    · rw [if_pos hn] at hR
      refine cond_i (fun _ => err 10 w1 hR.symm (by decide) e1) (fun h => ?_)
      rw [Bool.or_eq_false_iff] at h
      have h1 : ¬ r4 < 0 := of_decide_eq_false h.1
      have h2 : ¬ r4 > (p0.len : Int) - (a : Int) - 16 := of_decide_eq_false h.2
      omega
    rw [if_neg hn] at hR
    have h4 : r4 = (S.num b (a + 8) 8 : Int) := by omega
    subst h4
    refine cond_i (fun h => ?_) (fun _ => ?_)
    · rw [Bool.or_eq_true] at h
      rcases h with h | h
      · have : ((S.num b (a + 8) 8 : Nat) : Int) < 0 := of_decide_eq_true h
        omega
      · have : ((S.num b (a + 8) 8 : Nat) : Int) > (p0.len : Int) - (a : Int) - 16 := of_decide_eq_true h
        omega
    rw [wrap_i64 (x := (a : Int) + 16) (by omega) (by omega), wrap_i64 (x := (a : Int) + 16 + ((S.num b (a + 8) 8 : Nat) : Int)) (by omega) (by omega)]
    have hnum : S.num b (a + 8) 8 ≤ b.length - a - 16 := by omega
    refine sl2_i (lo := (a : Int) + 16) (by omega) (by omega) (by omega) ?_
    have hcut0 := Bts.cut hs (l := a + 16) (hi := a + 16 + S.num b (a + 8) 8) (by omega) (by omega)
    rw [show a + 16 + S.num b (a + 8) 8 - (a + 16) = S.num b (a + 8) 8 by omega, ← List.drop_drop] at hcut0
    rw [show ((a : Int) + 16).toNat = a + 16 by omega, show ((a : Int) + 16 + ((S.num b (a + 8) 8 : Nat) : Int)).toNat = a + 16 + S.num b (a + 8) 8 by omega]
    generalize hX : (((b.drop a).drop 16).take (S.num b (a + 8) 8)) = X at hcut0 hR
    have hXl : X.length ≤ 100000 := by rw [← hX, List.length_take]; omega
    refine rread_s (kind := ((S.num b a 8 : Nat) : Int)) (hcut0.ext e1) hXl (by omega) (fun hrd d w2 e2 => ?_) (fun hrd d w2 e2 hdp okd => ?_)
    · rw [if_pos hrd] at hR
      refine alloc_i fun g w3 e3 hg v3 => ?_
      refine stD_i (d := d) v3 rfl fun w4 f4 v4 => ?_
      refine cond_i (fun _ => err 12 w4 hR.symm (by decide) (e1.trans (e2.trans (Fr.own1 e3 f4 hg)))) (fun h => by cases h)
    rw [if_neg (by rw [hrd]; simp)] at hR
    refine alloc_i fun g w3 e3 hg v3 => ?_
    refine stD_i (d := d) v3 rfl fun w4 f4 v4 => ?_
    have e24 := Fr.own1 e3 f4 hg
    have E4 := e1.trans (e2.trans e24)
    have e14 := e2.trans e24
    refine cond_i (fun h => by cases h) (fun _ => ?_)
    refine ldD_i v4 ?_
    have hds4 : DsIn w4 out ds := DsIn.of_own (ho1.ext e14) fun o ho => (hok o ho).ext E4
    refine twice_s (d := d) hds4 (by omega) fun w5 e5 => ?_
    rw [any_pure (q := d.pure.like)]
    rw [← hdp] at hR
    refine cond_i (fun hq => ?_) (fun hq => ?_)
    · rw [if_pos hq] at hR
      exact err 35 w5 hR.symm (by decide) (E4.trans e5)
    rw [if_neg (by rw [hq]; simp)] at hR
    refine ldD_i (v4.ext e5) ?_
    have E5 := E4.trans e5
    have e15 := e14.trans e5
    refine append1D_i (d := d) (ho1.ext e15) (by omega) E5.size (by kernel_rfl) fun v w6 f6 o6 hvl hin => ?_
    have E6 : Ext w w6 := Ext.own E5 f6 fun k hk => (ho1.inB hk).1
    refine hag _ w6 ⟨E6, a + 16 + S.num b (a + 8) 8, f, ds ++ [d], by omega, ?_, o6, fun o ho => ?_, by rw [List.length_append]; simp; omega, by rw [List.length_drop]; omega, ?_⟩ ?_
    · show IntKind.wrap .i64 ((a : Int) + IntKind.wrap .i64 (16 + ((S.num b (a + 8) 8 : Nat) : Int))) = _
      rw [wrap_i64 (x := 16 + ((S.num b (a + 8) 8 : Nat) : Int)) (by omega) (by omega), wrap_i64 (by omega) (by omega)]; omega
    · rcases List.mem_append.1 ho with ho | ho
      · exact hok o ho
      · rw [List.mem_singleton.1 ho]; exact okd w hcut0
    · rw [List.map_append, List.map_cons, List.map_nil, ← hR, List.drop_drop, Nat.add_assoc]
    · show b.length - (IntKind.wrap .i64 ((a : Int) + IntKind.wrap .i64 (16 + ((S.num b (a + 8) 8 : Nat) : Int)))).toNat < b.length - ((a : Int)).toNat
      rw [wrap_i64 (x := 16 + ((S.num b (a + 8) 8 : Nat) : Int)) (by omega) (by omega), wrap_i64 (by omega) (by omega)]; omega
  · have hal : a = b.length := by have : ¬ (a : Int) < (p0.len : Int) := of_decide_eq_false hge
                                  omega
    rw [S.pars, if_pos (by omega)] at hR
    subst hR
    exact hOk rfl out w1 ds e1 rfl (DsIn.of_own ho1 fun o ho => (hok o ho).ext e1)
end Go.Proofs.Ytgjbajjggmpmmaa
