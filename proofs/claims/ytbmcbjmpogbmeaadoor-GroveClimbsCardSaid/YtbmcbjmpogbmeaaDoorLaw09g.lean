/- Layer 9 (grove): the law GroveRefuses. -/
import Derived.Test.YtbmcbjmpogbmeaaDoorLaw09e
set_option linter.unusedSimpArgs false
set_option linter.unusedVariables false
namespace Go.Proofs.YtbmcbjmpogbmeaaDoor
open Go Go.Eng
theorem climbErr_ask {a i : Int} {salt root : List UInt8} {x : S.Shp} {bl : List (List UInt8)} {e : Int} (h : askErr a salt x = e) (h0 : e ≠ 0) : climbErr a salt x i bl root = e := by
  unfold climbErr; rw [h, if_pos h0]
theorem wayErr_in (a : Int) (salt : List UInt8) (x : S.Shp) (i : Nat) (bl : List (List UInt8)) (root : List UInt8) : wayErr a salt x i bl root = 54 ∨ wayErr a salt x i bl root = 51 ∨ wayErr a salt x i bl root = 0 := by
  unfold wayErr; split
  · exact .inl rfl
  · split
    · exact .inr (.inr rfl)
    · exact .inr (.inl rfl)
theorem GroveRefuses_t {y : SM} {p1 k : Int} {s p3 : Sl} {form : Bool} {xs : List (Sl × List UInt8)} {root : List UInt8} {K : Bool → World → Prop} {w : World} {g g3 : Nat} (ht : Tabs9 w) (hy : y.Ok w) (v : Var w g y.cells) (v3 : Var w g3 (shC y.shp)) (hp : Parts w s xs) (hr : Bts w p3 root) (hp1 : -9223372036854775808 ≤ p1 ∧ p1 ≤ 9223372036854775807)
    (hn : xs.length ≤ 100) (hl : ∀ y ∈ xs, y.2.length ≤ 1000000) (hform : form = !(xs.any fun z => (z.2.length : Int) != y.blk)) (hK : ∀ w', Ext w w' → K true w') : f9_t1 (at_ g 0) (at_ g3 0) p1 (s, form, k) p3 K w := by
  unfold f9_t1
  dsimp only
  have hsl := Bts.len hy.salt
  refine ld1_i (l := .int .i64) (o := 0) y.alg v rfl (ld1_i (l := .slc) (o := 2) y.salt.1 v rfl (ldSh_i v3 ?_))
  refine climb_s ht hy.salt hp hr hp1 (by omega) hl fun w1 e1 => ?_
  have v1 := v.ext e1
  have v31 := v3.ext e1
  have hE : askErr y.alg y.salt.2 y.shp = _ := ask_want y
  refine ld1_i (l := .int .i64) (o := 0) y.alg v1 rfl ?_
  refine rdsz_s ?_
  refine cond_i (fun h => ?_) (fun h => ?_)
  · rw [if_pos (by simpa using h)] at hE
    rw [climbErr_ask hE (by decide)]
    exact hK w1 e1
  have hz : S.dsz y.alg ≠ 0 := by simpa using h
  rw [if_neg hz] at hE
  refine ld1_i (l := .slc) (o := 2) y.salt.1 v1 rfl ?_
  refine cond_i (fun h => ?_) (fun h => ?_)
  · have h : (y.salt.1.len : Int) > 64 := of_decide_eq_true h
    rw [if_pos (by omega)] at hE
    rw [climbErr_ask hE (by decide)]
    exact hK w1 e1
  have h64 : ¬ (y.salt.1.len : Int) > 64 := of_decide_eq_false h
  rw [if_neg (by omega)] at hE
  refine ldSh_i v31 ?_
  refine rRight_s fun w2 e2 => ?_
  have E2 := e1.trans e2
  have v32 := v31.ext e2
  have hyr : y.right = y.shp.right := by unfold SM.right; rw [decide_eq_true (by omega), Bool.and_true]
  rw [hyr] at hE
  refine cond_i (fun h => ?_) (fun h => ?_)
  · rw [if_pos (by simpa using h)] at hE
    rw [climbErr_ask hE (by decide)]
    exact hK w2 E2
  have hright : y.shp.right = true := by simpa using h
  rw [if_neg (by rw [hright]; decide)] at hE
  have o := S.Shp.ok_of hright
  have hcm := S.Shp.c_max o 0
  have hh := S.Shp.h_le o
  have counts : ∀ {w' : World} {Q : Sl → World → Prop}, (∀ cv w'', Ext w' w'' → Own w'' w'.heap.size cv 1 (y.shp.cs.map vI) → cv.len = y.shp.h + 1 → Q cv w'') → callS Tryd.prog 22 #[.agg #[.int .i64 y.shp.s, .int .i64 y.shp.b, .int .i64 y.shp.d]] [.one .slc] Q w' := fun hQ => rCounts_s o fun cv w'' e oc => hQ cv w'' e oc (by have := oc.len; rw [List.length_map, S.Shp.cs_len, Nat.mul_one] at this; omega)
  refine join_i (fun c w' => c = !decide (0 ≤ p1 ∧ p1 < y.shp.c 0) ∧ Ext w2 w') ?_ fun J hJ => ?_
  rotate_left
  · refine cond_i (fun h => ?_) (fun h => ?_)
    · have h : p1 < 0 := of_decide_eq_true h
      exact hJ _ _ ⟨by rw [decide_eq_false (by omega)]; rfl, Fr.refl _ _⟩
    · have h : ¬ p1 < 0 := of_decide_eq_false h
      refine ldSh_i v32 ?_
      refine counts fun cv w3 e3 oc hcl => ?_
      refine elem_i (l := .int .i64) (x := (y.shp.c 0 : Int)) (i := 0) oc.rd (by omega) (by omega) (by rw [show (0 : Int).toNat = 0 from rfl, List.getElem?_map, S.Shp.cs_get (Nat.zero_le _)]; rfl) ?_
      refine hJ _ _ ⟨?_, e3⟩
      by_cases hc : p1 ≥ (y.shp.c 0 : Int)
      · rw [decide_eq_true hc, decide_eq_false (by omega)]; rfl
      · rw [decide_eq_false hc, decide_eq_true (by omega)]; rfl
  rintro c w3 ⟨rfl, e3⟩
  have E3 := E2.trans e3
  have hC : climbErr y.alg y.salt.2 y.shp p1 (xs.map (·.2)) root = if ¬ (0 ≤ p1 ∧ p1 < y.shp.c 0) then 13 else if (xs.map (·.2)).length ≠ y.shp.h + 1 ∨ ((xs.map (·.2)).any fun b => (b.length : Int) != y.shp.b) then 12 else wayErr y.alg y.salt.2 y.shp p1.toNat (xs.map (·.2)) root := by
    unfold climbErr; rw [hE, if_neg (by decide)]
  generalize climbErr y.alg y.salt.2 y.shp p1 (xs.map (·.2)) root = n at hC
  refine cond_i (fun h => ?_) (fun h => ?_)
  · rw [if_pos (by intro hp; rw [decide_eq_true hp] at h; cases h)] at hC
    rw [hC]
    exact hK w3 E3
  rw [if_neg (fun hn => by rw [decide_eq_false hn] at h; cases h), List.length_map, show ((xs.map (·.2)).any fun b => (b.length : Int) != y.shp.b) = xs.any fun z => (z.2.length : Int) != y.blk by rw [List.any_map]; rfl] at hC
  have hpl := hp.len
  refine join_i (fun c w' => c = decide (xs.length ≠ y.shp.h + 1 ∨ (xs.any fun z => (z.2.length : Int) != y.blk) = true) ∧ Ext w3 w') ?_ fun J hJ => ?_
  rotate_left
  · refine cond_i (fun h => ?_) (fun h => ?_)
    · rw [hform] at h
      exact hJ _ _ ⟨by rw [decide_eq_true (.inr (by simpa using h))], Fr.refl _ _⟩
    · rw [hform] at h
      refine ldSh_i (v32.ext e3) ?_
      refine counts fun cv w4 e4 oc hcl => hJ _ _ ⟨?_, e4⟩
      rw [hcl, hpl]
      have hno : (xs.any fun z => (z.2.length : Int) != y.blk) = false := by simpa using h
      rw [hno]
      by_cases hc : xs.length = y.shp.h + 1
      · rw [hc]; simp
      · rw [decide_eq_true (.inl hc)]
        have : ¬ (xs.length : Int) = ((y.shp.h + 1 : Nat) : Int) := by omega
        simpa using this
  rintro c w4 ⟨rfl, e4⟩
  have E4 := E3.trans e4
  refine cond_i (fun h => ?_) (fun h => ?_)
  · rw [if_pos (of_decide_eq_true h)] at hC
    rw [hC]
    exact hK w4 E4
  rw [if_neg (of_decide_eq_false h)] at hC
  have := hK w4 E4
  rcases wayErr_in y.alg y.salt.2 y.shp p1.toNat (xs.map (·.2)) root with hw | hw | hw <;> rw [hC, hw] <;> exact this
theorem GroveRefuses_s {y : SM} {p1 : Int} {p2 p3 : Sl} {ns : List Int} {root : List UInt8} {K : Bool → World → Prop} {w : World} (hy : y.Ok w) (hp1 : -9223372036854775808 ≤ p1 ∧ p1 ≤ 9223372036854775807) (hns : Rd w p2 1 (ns.map (Value.int .i64)) ∧ ∀ x ∈ ns, -9223372036854775808 ≤ x ∧ x ≤ 9223372036854775807) (hr : Bts w p3 root) (ht1 : Tabs w) (ht2 : L.Tabs w) (hK : ∀ w', Ext w w' → K true w') :
    callS Tryd.prog 9 #[.agg y.cells.toArray, .int .i64 p1, .slice p2.a p2.len p2.cap, .slice p3.a p3.len p3.cap] [.one .bool] K w := by
  refine f9_ok (p0_0 := y.alg) (p0_1 := y.blk) (p0_2 := y.salt.1) (p0_3 := y.data.1) ?_
  unfold f9
  have ht : Tabs9 w := ⟨ht1, ht2⟩
  have hsl := Bts.len hy.salt
  have hdl := Bts.len hy.data
  have hnl : p2.len = ns.length := by have := hns.1.len; simp at this; omega
  refine box_i fun g w1 e1 hg v1 => ?_
  have v1 : Var w1 g y.cells := v1
  refine anchor9_s (ht.ext e1) fun w2 e2 => ?_
  refine cond_i (fun h => by cases h) (fun _ => ?_)
  have E2 := e1.trans e2
  have v2 := v1.ext e2
  refine ldM_i v2 ?_
  refine seedSmall_s hsl hdl fun w3 e3 => ?_
  have E3 := E2.trans e3
  have v3 := v2.ext e3
  refine cond_i (fun _ => hK w3 E3) (fun h => ?_)
  simp only [Bool.or_eq_false_iff, decide_eq_false_iff_not] at h
  obtain ⟨⟨_, h20⟩, h100⟩ := h
  refine loop_i (fun (st : Sl × Bool × Int) w' => ∃ (k : Nat) (xs : List (Sl × List UInt8)), st.2.2 = k ∧ k ≤ ns.length ∧ Ext w3 w' ∧ OwnP w' w3.heap.size st.1 xs ∧ xs.length = k ∧ (∀ z ∈ xs, z.2.length ≤ 5000) ∧ st.2.1 = !(xs.any fun z => (z.2.length : Int) != y.blk)) (fun st _ => ns.length - st.2.2.toNat)
    ⟨0, [], rfl, by omega, Fr.refl _ _, OwnP.nil _ _, rfl, (fun z hz => by cases hz), rfl⟩ ?_
  rintro ⟨s, form, k'⟩ w4 again ⟨k, xs, hk', hk, e4, o4, hxl, hxs, hform⟩ hag
  dsimp only at hk' o4 hform ⊢
  subst hk'
  have E4 := E3.trans e4
  have v4 := v3.ext e4
  refine cond_i (fun hlt => ?_) (fun hge => ?_)
  · have hlt : k < ns.length := by have : (k : Int) < (p2.len : Int) := of_decide_eq_true hlt
                                   omega
    obtain ⟨n, hnk⟩ : ∃ m : Int, ns[k]'hlt = m := ⟨_, rfl⟩
    refine elem_i (l := .int .i64) (x := n) (hns.1.ext E4) (by omega) (by omega) (by rw [Int.toNat_natCast]; simp [hlt, hnk, Lf.enc]) ?_
    refine cond_i (fun _ => hK w4 E4) (fun h => ?_)
    simp only [Bool.or_eq_false_iff, decide_eq_false_iff_not] at h
    have h1 : ¬ n < 0 := h.1
    have h2 : ¬ n > 5000 := h.2
    refine makeB_i (by omega) (by omega) fun r w5 e5 o5 => ?_
    have h34 := e4.size
    have h45 := e5.size
    refine appendP_i (o4.ext e5) o5.rd (fun q hq => ⟨⟨by have := (o5.inB hq).1; omega, (o5.inB hq).2⟩, fun hs => by have := (o4.own.inB hs).2; have := (o5.inB hq).1; omega⟩) (by omega) (by omega) fun v w6 f6 o6 => ?_
    have e46 : Ext w3 w6 := Ext.own (e4.trans e5) f6 fun q hq => (o4.own.inB hq).1
    have v6 := v3.ext e46
    have hanyS : (xs ++ [(r, List.replicate n.toNat (0 : UInt8))]).any (fun z => (z.2.length : Int) != y.blk) = ((xs.any fun z => (z.2.length : Int) != y.blk) || n != y.blk) := by
      rw [List.any_append]
      simp only [List.any_cons, List.any_nil, Bool.or_false, List.length_replicate]
      rw [show ((n.toNat : Nat) : Int) = n by omega]
    refine join_i (fun c w' => c = !((xs ++ [(r, List.replicate n.toNat (0 : UInt8))]).any (fun z => (z.2.length : Int) != y.blk)) ∧ w6 = w') ?_ fun J hJ => ?_
    rotate_left
    · rw [hanyS] at hJ
      refine cond_i (fun h => ?_) (fun h => ?_)
      · refine ld1_i (l := .int .i64) (o := 1) y.blk v6 rfl ?_
        refine hJ _ _ ⟨?_, rfl⟩
        rw [hform] at h
        have : (xs.any fun z => (z.2.length : Int) != y.blk) = false := by simpa using h
        rw [this, Bool.false_or]
        cases hb : n == y.blk <;> simp [bne, hb]
      · refine hJ _ _ ⟨?_, rfl⟩
        rw [hform] at h
        have : (xs.any fun z => (z.2.length : Int) != y.blk) = true := by simpa using h
        rw [this]; rfl
    rintro c w' ⟨rfl, rfl⟩
    have hkk : IntKind.wrap .i64 ((k : Int) + 1) = ((k + 1 : Nat) : Int) := wrap_nat (n := k + 1) (by omega)
    rw [hkk]
    refine hag _ w6 ⟨k + 1, _, rfl, by omega, e46, o6, by simp [hxl], fun z hz => ?_, rfl⟩ (by dsimp only; omega)
    rcases List.mem_append.1 hz with hz | hz
    · exact hxs z hz
    · rw [List.mem_singleton.1 hz, List.length_replicate]; omega
  · have hd := Ext.drew w4
    refine ⟨fun x => Ext w4 x, hd, ?_⟩
    refine ld1Q_i (l := .slc) (o := 3) y.data.1 (fun x hx => v4.ext hx) rfl (ld1Q_i (l := .int .i64) (o := 1) y.blk (fun x hx => v4.ext hx) rfl (ld1Q_i (l := .int .i64) (o := 0) y.alg (fun x hx => v4.ext hx) rfl ?_))
    have hs : (⟨(y.data.1.len : Int), y.blk, S.dsz y.alg⟩ : S.Shp) = y.shp := by unfold SM.shp shp9; rw [hdl]
    have st3 : ∀ {g3 : Nat} {w5 : World} {cs}, Ext w4 w5 → w4.heap.size ≤ g3 → Var w5 g3 cs → cs.length = 3 → semU Tryd.prog (Instr.storeAt 27 (.pointer (some (at_ g3 0))) (.agg #[.int .i64 (y.data.1.len : Int), .int .i64 y.blk, .int .i64 (S.dsz y.alg)])) (fun w => f9_t1 (at_ g 0) (at_ g3 0) p1 (s, form, (k : Int)) p3 K w) w5 := by
      intro g3 w5 cs e5 h3 v hl
      refine stSh_i (x := ⟨(y.data.1.len : Int), y.blk, S.dsz y.alg⟩) v hl fun w6 f6 v6 => ?_
      rw [hs] at v6
      have e46 : Ext w4 w6 := Fr.own1 e5 f6 h3
      have E6 := E4.trans e46
      exact GroveRefuses_t (xs := xs) (root := root) (ht.ext E6) (hy.ext E6) (v4.ext e46) v6 (o4.ext e46).parts (hr.ext E6) hp1 (by omega) (fun z hz => by have := hxs z hz; omega) hform fun w' e => hK w' (E6.trans e)
    have hsz := hd.size
    refine ⟨?_, ?_⟩
    · refine rdsz_s ?_
      refine more_i hd ?_
      refine alloc_i fun g3 w5 e5 hg3 v5 => ?_
      exact more_i (hd.trans e5) (st3 (hd.trans e5) (by omega) v5 rfl)
    · refine alloc_i fun g3 w5 e5 hg3 v5 => ?_
      refine more_i (hd.trans e5) ?_
      refine rdsz_s ?_
      exact more_i (hd.trans e5) (st3 (hd.trans e5) (by omega) v5 rfl)
end Go.Proofs.YtbmcbjmpogbmeaaDoor
