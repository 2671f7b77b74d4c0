/- Layer 9 (grove): digests, and what is asked. / Layer 9 (grove): the program makes a tree. / Layer 9 (grove): a digest checked, and two lists of blocks compared. / Layer 9 (grove): the climb from a block to the root. / Layer 9 (grove): two ways to one root. -/
import Derived.Test.YteopoodhclljjaaGreatDoorG17e
import Derived.Test.YteopoodhclljjaaGreatDoorG17b
import Derived.Test.YteopoodhclljjaaGreatDoorLib7
set_option linter.unusedSimpArgs false
set_option linter.unusedVariables false
/-! Grv09a -/
namespace Go.Proofs.YteopoodhclljjaaGreatDoor
open Go Go.Eng
/-- The tables of both sums. -/
def Tabs9 (w : World) : Prop := Tabs w ∧ L.Tabs w
theorem Tabs9.ext {w w' : World} (h : Tabs9 w) (e : Ext w w') : Tabs9 w' := ⟨h.1.ext e, h.2.ext e⟩
def digErr (a : Int) (salt : List UInt8) : Int := if S.dsz a = 0 then 20 else if salt.length > 64 then 11 else 0
theorem dig_s {a : Int} {p1 p2 : Sl} {salt : List UInt8} {xs : List (Sl × List UInt8)} {K : Sl → Int → World → Prop} {w : World} (ht : Tabs9 w) (hs : Bts w p1 salt) (hp : Parts w p2 xs) (hl : (flatB xs).length ≤ 900000000) (hx : xs.length ≤ 1000000)
    (hErr : digErr a salt ≠ 0 → K Sl.nil (digErr a salt) w) (hOk : digErr a salt = 0 → ∀ v w', Ext w w' → OwnB w' w.heap.size v (S.dg a salt (flatB xs)) → K v 0 w') :
    callS Tryz.prog 50 #[.int .i64 a, .slice p1.a p1.len p1.cap, .slice p2.a p2.len p2.cap] [.one .slc, .one (.int .i64)] K w := by
  refine f50_ok ?_
  unfold f50
  have hsl := Bts.len hs
  unfold digErr at hErr hOk
  refine dsz_s ?_
  refine cond_i (fun h => ?_) (fun h => ?_)
  · have h : S.dsz a = 0 := by simpa using h
    rw [if_pos h] at hErr
    exact hErr (by decide)
  have hz : ¬ S.dsz a = 0 := by simpa using h
  rw [if_neg hz] at hErr hOk
  refine cond_i (fun h => ?_) (fun h => ?_)
  · have h : (p1.len : Int) > 64 := of_decide_eq_true h
    rw [if_pos (by omega)] at hErr
    exact hErr (by decide)
  have h64 : ¬ salt.length > 64 := by have : ¬ (p1.len : Int) > 64 := of_decide_eq_false h
                                      omega
  rw [if_neg h64] at hOk
  refine buildV_i [slV p1] rfl (fun v hv => by simp at hv; subst hv; exact ⟨rfl, rfl⟩) rfl (by omega) fun x w1 e1 o1 => ?_
  have hpl := hp.len
  have o1l := o1.len
  refine append_i o1 (hp.rd.ext e1) (fun v hv => by obtain ⟨y, _, rfl⟩ := List.mem_map.1 hv; rfl) (by simp at o1l; omega) e1.size fun v w2 f2 o2 hl2 hin => ?_
  have E2 : Ext w w2 := Ext.own e1 f2 fun k hk => (o1.inB hk).1
  have hpp : Parts w2 v ((p1, salt) :: xs) := ⟨o2.rd, fun y hy => by
    rcases List.mem_cons.1 hy with rfl | hy
    · exact hs.ext E2
    · exact (hp.each y hy).ext E2⟩
  have hfl : flatB ((p1, salt) :: xs) = salt ++ flatB xs := rfl
  have ht2 := ht.ext E2
  refine cond_i (fun h => ?_) (fun h => ?_)
  · have h : a = 2 := by simpa using h
    refine L.of_s hpp ht2.2 (by rw [hfl, List.length_append]; omega) (by simp; omega) fun r w3 e3 o3 => ?_
    have := hOk rfl r w3 (E2.trans e3) (by unfold S.dg; rw [if_pos h, ← hfl]; exact o3.base E2.size)
    exact this
  · have h : ¬ a = 2 := by simpa using h
    refine of_s hpp ht2.1 (by rw [hfl, List.length_append]; omega) (by simp; omega) fun r w3 e3 o3 => ?_
    exact hOk rfl r w3 (E2.trans e3) (by unfold S.dg; rw [if_neg h, ← hfl]; exact o3.base E2.size)
theorem rdig_s {a : Int} {p1 p2 : Sl} {salt xs : List UInt8} {K : Sl → World → Prop} {w : World} (hs : Bts w p1 salt) (hp : Bts w p2 xs) (ha : S.dsz a ≠ 0) (hl : salt.length + xs.length ≤ 900000000)
    (hK : ∀ v w', Ext w w' → OwnB w' w.heap.size v (S.dg a salt xs) → K v w') :
    callS Tryz.prog 53 #[.int .i64 a, .slice p1.a p1.len p1.cap, .slice p2.a p2.len p2.cap] [.one .slc] K w := by
  refine f53_ok ?_
  unfold f53
  have hsl := Bts.len hs
  refine copyV_i hs bytes_one (by omega) fun x w1 e1 o1 => ?_
  have o1 : OwnB w1 w.heap.size x salt := o1
  refine appendB_i o1 (hp.ext e1) (by omega) e1.size fun v w2 f2 o2 hin => ?_
  have E2 : Ext w w2 := Ext.own e1 f2 fun k hk => (o1.inB hk).1
  rcases S.dsz_ne ha with ⟨rfl, _⟩ | ⟨rfl, _⟩
  · refine cond_i (fun _ => ?_) (fun h => by simp at h)
    refine refSum_s o2.rd (by rw [List.length_append]; omega) fun r w3 e3 o3 => ?_
    exact hK r w3 (E2.trans e3) (o3.base E2.size)
  · refine cond_i (fun h => by simp at h) (fun _ => ?_)
    refine L.refSum_s o2.rd (by rw [List.length_append]; omega) fun r w3 e3 o3 => ?_
    exact hK r w3 (E2.trans e3) (o3.base E2.size)
/-- What the program says of an algorithm, a salt and a shape. -/
def askErr (a : Int) (salt : List UInt8) (x : S.Shp) : Int := if S.dsz a = 0 then 20 else if salt.length > 64 then 11 else if x.right = false ∨ x.d ≠ S.dsz a then 24 else 0
theorem asked_s {a : Int} {p1 : Sl} {salt : List UInt8} {x : S.Shp} {K : Int → World → Prop} {w : World} (hs : p1.len = salt.length) (hK : ∀ w', Ext w w' → K (askErr a salt x) w') :
    callS Tryz.prog 45 #[.int .i64 a, .slice p1.a p1.len p1.cap, .agg #[.int .i64 x.s, .int .i64 x.b, .int .i64 x.d]] [.one (.int .i64)] K w := by
  refine f45_ok ?_
  unfold f45
  unfold askErr at hK
  refine box_i fun g w1 e1 hg v1 => ?_
  have v1 : Var w1 g (shC x) := v1
  refine dsz_s ?_
  refine cond_i (fun h => ?_) (fun h => ?_)
  · rw [if_pos (by simpa using h)] at hK
    exact hK w1 e1
  rw [if_neg (by simpa using h)] at hK
  refine cond_i (fun h => ?_) (fun h => ?_)
  · have h : (p1.len : Int) > 64 := of_decide_eq_true h
    rw [if_pos (by omega)] at hK
    exact hK w1 e1
  have h64 : ¬ (p1.len : Int) > 64 := of_decide_eq_false h
  rw [if_neg (by omega)] at hK
  have hd := Ext.drew w1
  refine ⟨fun y => Ext w1 y, hd, ?_⟩
  refine ldShQ_i (fun y hy => v1.ext hy) ?_
  refine sRight_s fun w2 e2 => ?_
  have E2 := hd.trans e2
  refine more_i E2 ?_
  refine cond_i (fun h => ?_) (fun h => ?_)
  · rw [if_pos (.inl (by simpa using h))] at hK
    exact hK w2 (e1.trans E2)
  have hr : x.right = true := by simpa using h
  refine ld1Q_i (l := .int .i64) (o := 2) x.d (fun y hy => v1.ext hy) rfl ?_
  refine dsz_s ?_
  refine more_i E2 ?_
  refine cond_i (fun h => ?_) (fun h => ?_)
  · rw [if_pos (.inr (by simpa using h))] at hK
    exact hK w2 (e1.trans E2)
  · rw [if_neg (by rw [hr]; simpa using h)] at hK
    exact hK w2 (e1.trans E2)
end Go.Proofs.YteopoodhclljjaaGreatDoor

/-! Grv09b -/
namespace Go.Proofs.YteopoodhclljjaaGreatDoor
open Go Go.Eng
theorem Own.no_mark {w : World} {B sz : Nat} {s : Sl} {cs : List Value} {D : Nat} {x} (h : Own w B s sz cs) (hD : w.heap[D]? = some (.deferred x)) : ¬ s.inB D := by
  rintro ⟨a, ha, rfl⟩
  rcases h.row with ⟨h1, _⟩ | ⟨g, cur, e, fz, h1, _, h3, _⟩
  · rw [h1] at ha; cases ha
  · rw [h1] at ha; cases ha; rw [h3] at hD; cases hD
theorem finD_i {K : World → Prop} : ∀ {ds : List Nat} {w : World}, ds.Nodup → (∀ D ∈ ds, w.heap[D]? = some (.deferred (some []))) → (∀ w', Fr (fun k => k ∈ ds) w w' → K w') → finD ds K w
  | [], w, _, _, h => h w (Fr.refl _ _)
  | D :: ds, w, hn, hD, h => by
    have hn := List.nodup_cons.1 hn
    refine ⟨hD D (by simp), finD_i hn.2 (fun E hE => ?_) fun w' f => ?_⟩
    · rw [putObj_ne _ (fun (h : E = D) => hn.1 (by rw [← h]; exact hE))]; exact hD E (by simp [hE])
    · exact h w' ((fr_putObj w D (.deferred none)).mono (fun i _ hi => by subst hi; simp) |>.trans f fun i _ hi => by simp [hi])
/-- The shape that is made of what Make is given. -/
def shp9 (a b : Int) (data : List UInt8) : S.Shp := ⟨(data.length : Int), b, S.dsz a⟩
theorem askErr_ok {a : Int} {salt : List UInt8} {x : S.Shp} (h : askErr a salt x = 0) : S.dsz a ≠ 0 ∧ salt.length ≤ 64 ∧ x.right = true ∧ x.d = S.dsz a := by
  unfold askErr at h
  split at h
  · cases h
  · split at h
    · cases h
    · split at h
      · cases h
      · rename_i h1 h2 h3
        refine ⟨h1, by omega, ?_, ?_⟩
        · cases hr : x.right with
          | true => rfl
          | false => exact absurd (.inl hr) h3
        · exact Classical.byContradiction fun h => h3 (.inr h)
theorem askErr_of {a : Int} {salt : List UInt8} {x : S.Shp} (h1 : S.dsz a ≠ 0) (h2 : salt.length ≤ 64) (h3 : x.right = true) (h4 : x.d = S.dsz a) : askErr a salt x = 0 := by
  unfold askErr
  rw [if_neg h1, if_neg (by omega), if_neg (by rw [h3]; simpa using h4)]
theorem digErr_ok {a : Int} {salt : List UInt8} (h1 : S.dsz a ≠ 0) (h2 : salt.length ≤ 64) : digErr a salt = 0 := by
  unfold digErr; rw [if_neg h1, if_neg (by omega)]
theorem hlen9 {a b : Int} {data salt : List UInt8} (h : S.dsz a ≠ 0) (y : List UInt8) : (S.dg a salt y).length = (shp9 a b data).dN := S.dg_len h salt y
set_option maxHeartbeats 1600000 in
theorem make_s {a b : Int} {p1 p3 : Sl} {salt data : List UInt8} {K : Sl → Sl → Int → World → Prop} {w : World} (ht : Tabs9 w) (hs : Bts w p1 salt) (hd : Bts w p3 data) (hl : data.length ≤ 100000)
    (hErr : askErr a salt (shp9 a b data) ≠ 0 → ∀ w', Ext w w' → K Sl.nil Sl.nil (askErr a salt (shp9 a b data)) w')
    (hOk : askErr a salt (shp9 a b data) = 0 → ∀ t r w', Ext w w' → OwnB w' w.heap.size t ((shp9 a b data).tree (S.dg a salt) data) → OwnB w' w.heap.size r ((shp9 a b data).root (S.dg a salt) data) → K t r 0 w') :
    callS Tryz.prog 25 #[.int .i64 a, .slice p1.a p1.len p1.cap, .int .i64 b, .slice p3.a p3.len p3.cap] [.one .slc, .one .slc, .one (.int .i64)] K w := by
  refine f25_ok ?_
  unfold f25
  have hsl := Bts.len hs
  have hdl := Bts.len hd
  have hxd : (⟨(p3.len : Int), b, S.dsz a⟩ : S.Shp) = shp9 a b data := by rw [hdl]; rfl
  generalize hX : (⟨(p3.len : Int), b, S.dsz a⟩ : S.Shp) = x at hxd
  rw [← hxd] at hErr hOk
  have hxs : x.s = (p3.len : Int) := by rw [← hX]
  have hxb : x.b = b := by rw [← hX]
  have hxq : x.d = S.dsz a := by rw [← hX]
  refine box_i fun ga w1 e1 hga va => ?_
  refine box_i fun gs w2 e2 hgs vs => ?_
  refine ld1_i (l := .int .i64) (o := 0) a (va.ext e2) rfl ?_
  refine dsz_s ?_
  refine alloc_i fun gx w3 e3 hgx vx => ?_
  rw [← hxs, ← hxq, ← hxb]
  refine stSh_i (x := x) vx rfl fun w4 f4 vx4 => ?_
  rw [hxb]
  have e4 : Ext w2 w4 := Fr.own1 e3 f4 hgx
  have E4 := (e1.trans e2).trans e4
  have va4 : Var w4 ga [.int .i64 a] := (va.ext e2).ext e4
  have vs4 : Var w4 gs [slV p1] := vs.ext e4
  refine join_i (fun c w' => c = false ∧ w4 = w') ?_ fun J hJ => cond_i (fun h => ?_) (fun h => hJ _ _ ⟨rfl, rfl⟩)
  rotate_left
  · have : x.s > 1048576 := of_decide_eq_true h
    omega
  rintro c w' ⟨rfl, rfl⟩
  refine cond_i (fun h => by cases h) (fun _ => ?_)
  refine ld1_i (l := .int .i64) (o := 0) a va4 rfl ?_
  refine ld1_i (l := .slc) (o := 0) p1 vs4 rfl ?_
  refine ldSh_i (x := x) vx4 ?_
  refine asked_s (salt := salt) hsl fun w5 e5 => ?_
  have E5 := E4.trans e5
  refine cond_i (fun h => hErr (by simpa using h) w5 E5) (fun h => ?_)
  have hok : askErr a salt x = 0 := by simpa using h
  have hOk := hOk hok
  obtain ⟨q1, q2, q3, q4⟩ := askErr_ok hok
  have o := S.Shp.ok_of q3
  have hdig := digErr_ok q1 q2
  have hH : ∀ y, (S.dg a salt y).length = x.dN := fun y => by rw [S.dg_len q1 salt y, ← hxq]; rfl
  have hsN : x.sN = data.length := by rw [hxd]; rfl
  have hb1 := o.b1
  have hb2 := o.b2
  obtain ⟨B, rfl⟩ : ∃ B : Nat, b = (B : Int) := ⟨x.bN, by rw [← hxb]; exact o.b⟩
  have hB : x.bN = B := by have := o.b; omega
  have hc0 := S.Shp.c0_le o
  have hlv := fun l => S.Shp.lev_len (data := data) o hH l
  have hcb : ∀ l, x.c l * B ≤ 104096 := fun l => by
    have := Nat.mul_le_mul_right x.bN (S.Shp.c_anti o (j := 0) (k := l) (by omega))
    rw [hB] at this hc0 hb2; omega
  have htr : ∀ l, l ≤ x.h → (x.tr (S.dg a salt) data l).length ≤ 35 * 104096 := fun l hl => by
    have h1 := S.Shp.tr_len (data := data) o hH l
    have h2 := S.Shp.h_le o
    have h3 := Nat.mul_le_mul (show l ≤ 35 by omega) (hcb 0)
    rw [hB] at h1; omega
  refine pad_s (hd.ext E5) (by omega) ⟨by omega, by omega⟩ fun r14 w6 e6 o6 => ?_
  rw [S.pad_fills (by omega) (by omega) (by omega)] at o6
  have E6 := E5.trans e6
  have hl0 := S.Shp.lev_zero (H := S.dg a salt) o hsN.symm
  rw [hB] at hl0
  rw [← hl0] at o6
  have va6 := (va4.ext e5).ext e6
  have vs6 := (vs4.ext e5).ext e6
  refine loop_i (fun (st : (Sl × Sl) × List Nat) w' => ∃ l, l ≤ x.h ∧ st.1.2.len = x.c l * B ∧ Ext w6 w' ∧ OwnB w' w.heap.size st.1.1 (x.tr (S.dg a salt) data l) ∧ OwnB w' w.heap.size st.1.2 (x.lev (S.dg a salt) data l) ∧ st.2.Nodup ∧ ∀ D ∈ st.2, w.heap.size ≤ D ∧ w'.heap[D]? = some (.deferred (some [])))
    (fun st _ => st.1.2.len) ⟨0, by omega, by rw [OwnB.len o6, hlv, hB], Fr.refl _ _, Own.nilSl _ _ _, Own.base o6 E5.size, by simp, fun D hD => by cases hD⟩ ?_
  rintro ⟨⟨t, v⟩, ds⟩ w7 again ⟨l, hlh, hvl, e7, ot, ov, hnd, hds⟩ hag
  dsimp only at hvl ot ov hnd hds ⊢
  have E7 := E6.trans e7
  have va7 := va6.ext e7
  have vs7 := vs6.ext e7
  refine cond_i (fun hc => ?_) (fun hc => ?_)
  · have hc1 : 1 < x.c l := by
      have h1 : (v.len : Int) > (B : Int) := of_decide_eq_true hc
      have h2 : B < x.c l * B := by omega
      apply Classical.byContradiction
      intro hn
      have := Nat.mul_le_mul_right B (show x.c l ≤ 1 by omega)
      omega
    have hlt : l < x.h := by
      have := (S.Shp.h_iff o (k := l)).2
      omega
    refine alloc_i fun gn w8 e8 hgn vn => ?_
    have vn : Var w8 gn [slV Sl.nil] := vn
    refine chunk_s (n := (B : Int)) (by omega) fun g1 g2 w9 e9 hg1 hg2 v1 v2 => ?_
    have e79 := e8.trans e9
    have vn9 := vn.ext e9
    refine range_i (fn := Tryz.f82) Tryz.func82 (by kernel_rfl) (by kernel_rfl) ?_
    intro lp D oR oB W1 E1 hlp hD hlD hoR hoD hyield
    have e7W := e79.trans E1
    have hszW := E1.size
    have hsz9 := e79.size
    have hsz89 := e9.size
    have hga7 := va7.lt
    have hgs7 := vs7.lt
    have hgn9 := vn.lt
    have hg1l := v1.lt
    have hg2l := v2.lt
    have hEx : ∀ {w'}, Fr (fun k => k = gn ∨ k = lp) W1 w' → Ext w7 w' := fun f => Ext.own e7W f fun k hk => by omega
    refine chunk1_s (n := B) (s := v) (bs := x.lev (S.dg a salt) data l) (fun i w' => Fr (fun k => k = gn ∨ k = lp) W1 w' ∧ (∃ s, Var w' gn [slV s] ∧ OwnB w' W1.heap.size s (x.digs (S.dg a salt) data l i)) ∧ w'.heap[lp]? = some oR) (by omega) (by omega) (by rw [hlv, hB]; have := hcb l; omega) ⟨Fr.refl _ _, ⟨Sl.nil, vn9.ext E1, Own.nilSl _ _ _⟩, hoR⟩ ?_ ?_ ?_
    · rintro i w' ⟨f1, ⟨s, h6, h7⟩, hr⟩
      refine ⟨(v1.ext E1).fr f1 (by omega), (v2.ext E1).fr f1 (by omega), (ov.ext (hEx f1)).rd, f1.then (Ext.drew _), ⟨s, h6.ext (Ext.drew _), Own.ext h7 (Ext.drew _)⟩, hr⟩
    · rintro i u w' R ⟨f1, ⟨s, h6, h7⟩, hr⟩ hlt hu huin hR
      have hic : i < x.c l := by
        rw [hlv, hB, Nat.mul_comm] at hlt
        exact Nat.lt_of_mul_lt_mul_right hlt
      have hcut := S.Shp.lev_cut (data := data) o hH hic
      rw [hB, Nat.mul_comm] at hcut
      rw [hcut] at hu
      refine hyield [.slice u.a u.len u.cap] w' _ hr ?_
      refine ⟨hr, ?_⟩
      have f2 := fr_putObj w' lp oB
      have f12 : Fr (fun k => k = gn ∨ k = lp) W1 (w'.putObj lp oB) := f1.trans f2 fun k _ hk => .inr hk
      have hlw : lp < w'.heap.size := (Array.getElem?_eq_some_iff.1 hr).1
      have hlW : lp < W1.heap.size := (Array.getElem?_eq_some_iff.1 hoR).1
      have hnu : ∀ k, u.inB k → k ≠ lp := fun k hk => by have := (ov.inB (huin k hk)).2; omega
      have hns : ∀ k, s.inB k → k ≠ lp ∧ k ≠ gn := fun k hk => by have := (h7.inB hk).1; omega
      have E10 := hEx f12
      have h6' := h6.fr f2 (show ¬ gn = lp by omega)
      have h7' := h7.fr f2 fun a ha hk => (hns _ ⟨a, ha, rfl⟩).1 hk
      have hu' : Bts (w'.putObj lp oB) u (x.blk (S.dg a salt) data l i) := hu.fr f2 fun a ha hk => hnu _ ⟨a, ha, rfl⟩ hk
      have hb10 := putObj_at (o := oB) hr
      generalize w'.putObj lp oB = w10 at f12 E10 h6' h7' hu' hb10 f2
      refine ld1_i (l := .int .i64) (o := 0) a (va7.ext E10) rfl ?_
      refine ld1_i (l := .slc) (o := 0) p1 (vs7.ext E10) rfl ?_
      refine one_i hu' fun x31 w11 e11 p11 => ?_
      have E11 := E10.trans e11
      refine dig_s (salt := salt) (ht.ext (E7.trans E11)) (hs.ext (E7.trans E11)) p11 (by simp [flatB, S.Shp.blk_len o hH]; omega) (by simp) (fun h => absurd hdig h) fun _ r32 w12 e12 o12 => ?_
      have hfl : flatB [(u, x.blk (S.dg a salt) data l i)] = x.blk (S.dg a salt) data l i := by simp [flatB]
      rw [hfl] at o12
      have e1012 := e11.trans e12
      refine ld1_i (l := .slc) (o := 0) s (h6'.ext e1012) rfl ?_
      have hgl := S.Shp.digs_len (data := data) hH l i
      have hiD : i * x.dN ≤ 104096 := by
        have h1 := Nat.mul_le_mul_right x.dN (Nat.le_of_lt hic)
        have h2 : x.c l * x.dN ≤ x.c l * B := Nat.mul_le_mul_left _ (by rw [← hB, o.ba]; exact Nat.le_mul_of_pos_left _ (by have := o.a1; omega))
        have := hcb l; omega
      have hWs : W1.heap.size ≤ w12.heap.size := by have h1 := f12.size; have h2 := e1012.size; omega
      have hdd := o.dd
      refine appendB_i (Own.ext h7' e1012) o12.rd (by rw [hgl, hH]; omega) hWs fun s' w13 f13 o13 hin => ?_
      refine st1_i ((h6'.ext e1012).fr f13 (fun hk => (hns _ hk).2 rfl)) Nat.one_pos (rfl : (slV s').oneCell' = true) fun w14 f14 v14 => ?_
      have v14 : Var w14 gn [slV s'] := v14
      have hns' : ∀ k, s'.inB k → k ≠ lp ∧ k ≠ gn := fun k hk => by have := (o13.inB hk).1; omega
      have o14 := o13.fr f14 fun a ha hk => (hns' _ ⟨a, ha, rfl⟩).2 hk
      have hb14 : w14.heap[lp]? = some oB := by
        refine f14.heapAt (f13.heapAt (e1012.heapAt hb10 id) (fun hk => (hns _ hk).1 rfl)) (show ¬ lp = gn by omega)
      refine ⟨hb14, hR _ ⟨?_, ⟨s', v14.fr (fr_putObj _ _ _) (show ¬ gn = lp by omega), ?_⟩, putObj_at hb14⟩⟩
      · have hs7 : ∀ k, s.inB k → W1.heap.size ≤ k := fun k hk => (h7.inB hk).1
        have fa : Fr (fun k => k = gn ∨ k = lp) W1 w13 := (f12.then e1012).trans f13 fun k hk hk' => by have := hs7 k hk'; omega
        exact (fa.trans f14 fun k _ hk => .inl hk).trans (fr_putObj w14 lp oR) fun k _ hk => .inr hk
      · rw [S.Shp.digs_succ]
        exact o14.fr (fr_putObj _ _ _) fun a ha hk => (hns' _ ⟨a, ha, rfl⟩).1 hk
    · rintro i w' ⟨f1, ⟨s, h6, h7⟩, hr⟩ hge hlast
      have hi : i = x.c l := by
        rw [hlv, hB] at hge hlast
        have h1 : x.c l ≤ i := by
          apply Classical.byContradiction; intro hn
          have := Nat.mul_lt_mul_of_pos_right (show i < x.c l by omega) (show 0 < B by omega)
          rw [Nat.mul_comm B i] at hge; omega
        rcases hlast with h | h
        · omega
        · rw [Nat.mul_comm] at h
          have := Nat.lt_of_mul_lt_mul_right h
          omega
      subst hi
      refine ⟨hr, fun oX => ?_⟩
      have hlW : lp < W1.heap.size := (Array.getElem?_eq_some_iff.1 hoR).1
      have f2 := fr_putObj w' lp oX
      have f12 : Fr (fun k => k = gn ∨ k = lp) W1 (w'.putObj lp oX) := f1.trans f2 fun k _ hk => .inr hk
      have hns : ∀ k, s.inB k → k ≠ lp ∧ k ≠ gn := fun k hk => by have := (h7.inB hk).1; omega
      have E10 := hEx f12
      have h6' := h6.fr f2 (show ¬ gn = lp by omega)
      have h7' := h7.fr f2 fun a ha hk => (hns _ ⟨a, ha, rfl⟩).1 hk
      have hD9 := e79.size
      have hDw : (w'.putObj lp oX).heap[D]? = some (.deferred (some [])) := f12.heapAt hoD (by omega)
      generalize w'.putObj lp oX = w10 at f12 E10 h6' h7' hDw f2
      refine ld1_i (l := .slc) (o := 0) s h6' rfl ?_
      have hgl := S.Shp.digs_len (data := data) hH l (x.c l)
      have hiD : x.c l * x.dN ≤ 104096 := by
        have h2 : x.c l * x.dN ≤ x.c l * B := Nat.mul_le_mul_left _ (by rw [← hB, o.ba]; exact Nat.le_mul_of_pos_left _ (by have := o.a1; omega))
        have := hcb l; omega
      refine pad_s h7'.rd (by omega) ⟨by omega, by omega⟩ fun r37 w11 e11 o11 => ?_
      rw [S.pad_fills (by omega) (by omega) (by omega)] at o11
      have hlS := S.Shp.lev_succ (data := data) o hH l
      rw [hB] at hlS
      rw [← hlS] at o11
      have E11 := E10.trans e11
      refine two_i o11.rd (Own.ext ot E11).rd fun x39 w12 e12 p12 => ?_
      have hfl : flatB [(r37, x.lev (S.dg a salt) data (l + 1)), (t, x.tr (S.dg a salt) data l)] = x.tr (S.dg a salt) data (l + 1) := by simp [flatB, S.Shp.tr]
      have h35 := htr (l + 1) (by omega)
      refine concat_s p12 (by simp) (by rw [hfl]; omega) fun r40 w13 e13 o13 => ?_
      rw [hfl] at o13
      have E13 := (E11.trans e12).trans e13
      have hw7 := E7.size
      have h10 := E10.size
      have h11 := e11.size
      have h12 := e12.size
      refine hag _ w13 ⟨l + 1, by omega, ?_, e7.trans E13, Own.base o13 (by omega), Own.base (Own.ext o11 (e12.trans e13)) (by omega), ?_, ?_⟩ ?_
      · show r37.len = _
        rw [OwnB.len o11, hlv, hB]
      · show (D :: ds).Nodup
        refine List.nodup_cons.2 ⟨fun hm => ?_, hnd⟩
        have := (Array.getElem?_eq_some_iff.1 (hds D hm).2).1
        omega
      · show ∀ E ∈ D :: ds, _
        intro E hE
        rcases List.mem_cons.1 hE with rfl | hE
        · exact ⟨by omega, ((e11.trans e12).trans e13).heapAt hDw id⟩
        · exact ⟨(hds E hE).1, E13.heapAt (hds E hE).2 id⟩
      · show r37.len < v.len
        rw [OwnB.len o11, hlv, hB, hvl]
        exact Nat.mul_lt_mul_of_pos_right (S.Shp.c_lt o hc1) (by omega)
  · have hlt : l = x.h := by
      have h1 : ¬ (v.len : Int) > (B : Int) := of_decide_eq_false hc
      have h2 : x.c l ≤ 1 := by
        apply Classical.byContradiction
        intro hn
        have := Nat.mul_le_mul_right B (show 2 ≤ x.c l by omega)
        omega
      have := (S.Shp.h_iff o (k := l)).1 h2
      omega
    subst hlt
    refine ld1_i (l := .int .i64) (o := 0) a va7 rfl ?_
    refine ld1_i (l := .slc) (o := 0) p1 vs7 rfl ?_
    refine one_i ov.rd fun x43 w8 e8 p8 => ?_
    have hll := hlv x.h
    have hcl := hcb x.h
    have hfl : flatB [(v, x.lev (S.dg a salt) data x.h)] = x.blk (S.dg a salt) data x.h 0 := by simp [flatB, S.Shp.lev_top o]
    refine dig_s (salt := salt) (ht.ext (E7.trans e8)) (hs.ext (E7.trans e8)) p8 (by rw [hfl, S.Shp.blk_len o hH]; omega) (by simp) (fun h => absurd hdig h) fun _ r44 w9 e9 o9 => ?_
    rw [hfl] at o9
    have E9 := e8.trans e9
    have hds9 : ∀ D ∈ ds, w9.heap[D]? = some (.deferred (some [])) := fun D hD => E9.heapAt (hds D hD).2 id
    refine finD_i hnd hds9 fun w10 f10 => ?_
    have ot9 := Own.ext ot E9
    have hw8 := e8.size
    have hw7 := E7.size
    exact hOk t r44 w10 (Ext.own (E7.trans E9) f10 fun k hk => (hds k hk).1) (ot9.fr f10 fun a ha hk => Own.no_mark ot9 (hds9 _ hk) ⟨a, ha, rfl⟩) (Own.base (o9.fr f10 fun a ha hk => Own.no_mark o9 (hds9 _ hk) ⟨a, ha, rfl⟩) (by omega))
end Go.Proofs.YteopoodhclljjaaGreatDoor

/-! Grv09d -/
namespace Go.S
open Go Go.Eng
/-- The first place at which two lists are unlike. -/
def difR : List (List UInt8) → List (List UInt8) → Option (List UInt8 × List UInt8)
  | x :: xs, y :: ys => if x = y then difR xs ys else some (x, y)
  | _, _ => none
theorem difR_step {a b : List (List UInt8)} {k : Nat} (ha : k < a.length) (hb : k < b.length) : difR (a.drop k) (b.drop k) = if a[k] = b[k] then difR (a.drop (k + 1)) (b.drop (k + 1)) else some (a[k], b[k]) := by
  rw [List.drop_eq_getElem_cons ha, List.drop_eq_getElem_cons hb, difR]
theorem difR_end {a b : List (List UInt8)} {k : Nat} (h : a.length ≤ k ∨ b.length ≤ k) : difR (a.drop k) (b.drop k) = none := by
  rcases h with h | h
  · rw [List.drop_of_length_le h]; unfold difR; rfl
  · rw [List.drop_of_length_le h]; unfold difR; split <;> simp_all
end Go.S
namespace Go.Proofs.YteopoodhclljjaaGreatDoor
open Go Go.Eng
def chk (a : Int) (salt above : List UInt8) (at_ : Int) (below : List UInt8) : Bool := ((S.cut above at_ (S.dsz a)).2 == 0) && (digErr a salt == 0) && (S.dg a salt below == (S.cut above at_ (S.dsz a)).1)
theorem dsz_cases (a : Int) : S.dsz a = 0 ∨ S.dsz a = 32 ∨ S.dsz a = 64 := by
  unfold S.dsz; split
  · simp
  · split <;> simp
theorem check_s {a i : Int} {p1 p2 p4 : Sl} {salt above below : List UInt8} {K : Bool → World → Prop} {w : World} (ht : Tabs9 w) (hs : Bts w p1 salt) (ha : Bts w p2 above) (hb : Bts w p4 below) (hla : above.length ≤ 68719476736) (hlb : below.length ≤ 1000000) (hi : S.I64 i)
    (hK : ∀ w', Ext w w' → K (chk a salt above i below) w') :
    callS Tryz.prog 49 #[.int .i64 a, .slice p1.a p1.len p1.cap, .slice p2.a p2.len p2.cap, .int .i64 i, .slice p4.a p4.len p4.cap] [.one .bool] K w := by
  refine f49_ok ?_
  unfold f49
  unfold chk at hK
  refine dsz_s ?_
  have hz := dsz_cases a
  refine cut_s ha hla hi ⟨by omega, by omega⟩ fun v w1 e1 o1 => ?_
  refine one_i (hb.ext e1) fun x w2 e2 p2 => ?_
  have E2 := e1.trans e2
  have hfl : flatB [(p4, below)] = below := by simp [flatB]
  by_cases hd : digErr a salt = 0
  · refine dig_s (salt := salt) (ht.ext E2) (hs.ext E2) p2 (by rw [hfl]; omega) (by simp) (fun h => absurd hd h) fun _ r w3 e3 o3 => ?_
    rw [hfl] at o3
    refine joinAnd (x := S.dg a salt below == (S.cut above i (S.dsz a)).1) (fun w' e => ?_) fun J hJ _ => ?_
    · have := hK w' ((E2.trans e3).trans e)
      rw [hd] at this
      exact this
    · exact equal_s o3.rd (Own.ext o1 (e2.trans e3)).rd (hJ _ (Fr.refl _ _))
  · refine dig_s (salt := salt) (ht.ext E2) (hs.ext E2) p2 (by rw [hfl]; omega) (by simp) (fun _ => ?_) (fun h => absurd h hd)
    refine joinAnd (x := S.dg a salt below == (S.cut above i (S.dsz a)).1) (fun w' e => hK w' (E2.trans e)) fun J hJ h => ?_
    simp [hd] at h
/-- A list's texts, from the end on. -/
def rv (xs : List (Sl × List UInt8)) : List (List UInt8) := (xs.map (·.2)).reverse
theorem rv_len (xs : List (Sl × List UInt8)) : (rv xs).length = xs.length := by simp [rv]
theorem rv_get {xs : List (Sl × List UInt8)} {k : Nat} (h : k < xs.length) : (rv xs)[k]'(by rw [rv_len]; exact h) = (xs[xs.length - 1 - k]'(by omega)).2 := by
  simp [rv, List.getElem_reverse]
theorem part_get {w : World} {s : Sl} {xs : List (Sl × List UInt8)} (h : Parts w s xs) {i : Nat} (hi : i < xs.length) : (xs.map fun x => slV x.1)[i]? = some (Lf.enc .slc (xs[i]'hi).1) := by simp [hi]; rfl
theorem differ_s {p0 p1 : Sl} {xs ys : List (Sl × List UInt8)} {K : Sl → Sl → Bool → World → Prop} {w : World} (hx : Parts w p0 xs) (hy : Parts w p1 ys) (hlx : xs.length ≤ 1000000) (hly : ys.length ≤ 1000000) (hbx : ∀ x ∈ xs, x.2.length ≤ 68719476736) (hby : ∀ x ∈ ys, x.2.length ≤ 68719476736)
    (hN : S.difR (rv xs) (rv ys) = none → ∀ w', Ext w w' → K Sl.nil Sl.nil false w')
    (hS : ∀ p q, S.difR (rv xs) (rv ys) = some (p, q) → ∀ v1 v2 w', Ext w w' → OwnB w' w.heap.size v1 p → OwnB w' w.heap.size v2 q → K v1 v2 true w') :
    callS Tryz.prog 52 #[.slice p0.a p0.len p0.cap, .slice p1.a p1.len p1.cap] [.one .slc, .one .slc, .one .bool] K w := by
  refine f52_ok ?_
  unfold f52
  have hl0 := hx.len
  have hl1 := hy.len
  have hmin : (if (p1.len : Int) < (p0.len : Int) then (p1.len : Int) else (p0.len : Int)) = ((min xs.length ys.length : Nat) : Int) := by rw [hl0, hl1]; split <;> omega
  rw [hmin]
  have hr0 := rv_len xs
  have hr1 := rv_len ys
  refine loop_i (fun (x : Int) w' => ∃ k : Nat, x = ((k + 1 : Nat) : Int) ∧ k ≤ min xs.length ys.length ∧ Ext w w' ∧ S.difR (rv xs) (rv ys) = S.difR ((rv xs).drop k) ((rv ys).drop k)) (fun x _ => min xs.length ys.length + 1 - x.toNat) ⟨0, rfl, by omega, Fr.refl _ _, rfl⟩ ?_
  rintro _ w1 again ⟨k, rfl, hk, e1, heq⟩ hag
  refine cond_i (fun h => ?_) (fun h => ?_)
  · have hlt : k < min xs.length ys.length := by have : ((k + 1 : Nat) : Int) ≤ ((min xs.length ys.length : Nat) : Int) := of_decide_eq_true h
                                                 omega
    have hkx : k < xs.length := by omega
    have hky : k < ys.length := by omega
    have hd := Ext.drew w1
    refine ⟨fun y => Ext w1 y, hd, ?_⟩
    have hx1 := hx.ext e1
    have hy1 := hy.ext e1
    obtain ⟨ax, hax⟩ := hx1.rd.some (by omega)
    obtain ⟨ay, hay⟩ := hy1.rd.some (by omega)
    have hwx : IntKind.wrap .i64 ((p0.len : Int) - ((k + 1 : Nat) : Int)) = ((xs.length - 1 - k : Nat) : Int) := by rw [hl0, show (xs.length : Int) - ((k + 1 : Nat) : Int) = ((xs.length - 1 - k : Nat) : Int) by omega]; exact wrap_nat (by omega)
    have hwy : IntKind.wrap .i64 ((p1.len : Int) - ((k + 1 : Nat) : Int)) = ((ys.length - 1 - k : Nat) : Int) := by rw [hl1, show (ys.length : Int) - ((k + 1 : Nat) : Int) = ((ys.length - 1 - k : Nat) : Int) by omega]; exact wrap_nat (by omega)
    have hix : xs.length - 1 - k < xs.length := by omega
    have hiy : ys.length - 1 - k < ys.length := by omega
    rw [hwx]
    refine elemQ_i (l := .slc) (x := (xs[xs.length - 1 - k]'hix).1) hax (fun y hy => (hx1.ext hy).rd) (by omega) (by omega) (by rw [Int.toNat_natCast]; exact part_get hx1 hix) ?_
    rw [hwy]
    refine elemQ_i (l := .slc) (x := (ys[ys.length - 1 - k]'hiy).1) hay (fun y h => (hy1.ext h).rd) (by omega) (by omega) (by rw [Int.toNat_natCast]; exact part_get hy1 hiy) ?_
    have gx := rv_get hkx
    have gy := rv_get hky
    have mx := List.getElem_mem hix
    have my := List.getElem_mem hiy
    have hst := S.difR_step (a := rv xs) (b := rv ys) (k := k) (by omega) (by omega)
    rw [gx, gy] at hst
    rw [hst] at heq
    generalize xs[xs.length - 1 - k]'hix = u at heq mx ⊢
    generalize ys[ys.length - 1 - k]'hiy = v at heq my ⊢
    have hu := (hx1.each u mx).ext hd
    have hv := (hy1.each v my).ext hd
    refine equal_s hu hv ?_
    have E1 := e1.trans hd
    refine cond_i (fun h => ?_) (fun h => ?_)
    · have hne : ¬ u.2 = v.2 := by simpa using h
      rw [if_neg hne] at heq
      refine clone_s hu (hbx u mx) fun r1 w2 e2 o2 => ?_
      refine clone_s (hv.ext e2) (hby v my) fun r2 w3 e3 o3 => ?_
      exact hS _ _ heq r1 r2 w3 ((E1.trans e2).trans e3) (Own.base (Own.ext o2 e3) E1.size) (Own.base o3 (E1.trans e2).size)
    · have he : u.2 = v.2 := by simpa using h
      rw [if_pos he] at heq
      have hw : IntKind.wrap .i64 (((k + 1 : Nat) : Int) + 1) = ((k + 1 + 1 : Nat) : Int) := wrap_nat (n := k + 1 + 1) (by omega)
      rw [hw]
      exact hag _ _ ⟨k + 1, rfl, by omega, E1, heq⟩ (by omega)
  · have hge : ¬ k < min xs.length ys.length := by have : ¬ ((k + 1 : Nat) : Int) ≤ ((min xs.length ys.length : Nat) : Int) := of_decide_eq_false h
                                                   omega
    rw [S.difR_end (by omega)] at heq
    exact hN heq w1 e1
end Go.Proofs.YteopoodhclljjaaGreatDoor

/-! Grv09e -/
namespace Go.Proofs.YteopoodhclljjaaGreatDoor
open Go Go.Eng
/-- A closure is called. -/
theorem callCap_i {P : Program} {w : World} {gf : FuncId} {fn : Func} {args cb : Array Value} {ts : List Ty} {K : curTs ts (World → Prop)} (hf : P.funcs[gf]? = some fn) (hn : (fn.name == "runtime.NumGoroutine") = false) (hb : fn.body.isNone = false) (h : callS P gf (args ++ cb) ts K w) :
    callY P (callSem (.func (.func gf) #[] cb) args) ts K w := by
  refine .inl ⟨gf, args ++ cb, ?_, h⟩
  simp [callSem, Deferred.ofValue, invoke, run_callFunc_body hf hn hb]
theorem containsB_s {s : Sl} {xs : List (Sl × List UInt8)} {f : Value} {q : List UInt8 → Bool} {K : Bool → World → Prop} {w : World} (h : Parts w s xs) (hn : xs.length ≤ 100000)
    (hf : ∀ x ∈ xs, ∀ (R : Bool → World → Prop) (w1 : World), Ext w w1 → (∀ w', Ext w1 w' → R (q x.2) w') → callY Tryz.prog (callSem f #[.slice x.1.a x.1.len x.1.cap]) [.one .bool] R w1)
    (hK : ∀ w', Ext w w' → K (xs.any fun x => q x.2) w') : callS Tryz.prog 46 #[.slice s.a s.len s.cap, f] [.one .bool] K w := by
  refine f46_ok ?_
  unfold f46
  refine f73_ok ?_
  unfold f73
  have hsl := h.len
  refine loop_i (fun (x : Int) w' => Ext w w' ∧ ∃ i : Nat, i ≤ xs.length ∧ x = i ∧ ((xs.take i).any fun x => q x.2) = false) (fun x _ => xs.length - x.toNat) ⟨Fr.refl _ _, 0, by omega, rfl, rfl⟩ ?_
  rintro x w1 again ⟨e1, i, hi, rfl, hno⟩ hag
  refine cond_i (fun hlt => ?_) (fun hge => ?_)
  · have hi' : i < xs.length := by have : (i : Int) < (s.len : Int) := of_decide_eq_true hlt
                                   omega
    have h1 := h.ext e1
    have ht : xs.take (i + 1) = xs.take i ++ [xs[i]'hi'] := List.take_succ_eq_append_getElem hi'
    have hmem := List.getElem_mem hi'
    refine elem_i (l := .slc) (x := (xs[i]'hi').1) h1.rd (by omega) (by omega) (by rw [Int.toNat_natCast]; exact part_get h1 hi') ?_
    generalize xs[i]'hi' = d at ht hmem
    refine hf d hmem _ w1 e1 fun w2 e2 => ?_
    refine cond_i (fun hq => ?_) (fun hq => ?_)
    · have : (xs.any fun x => q x.2) = true := List.any_eq_true.2 ⟨d, hmem, hq⟩
      have h2 := hK w2 (e1.trans e2)
      rw [this] at h2
      show K (decide ((i : Int) ≥ 0)) w2
      rw [decide_eq_true (show (i : Int) ≥ 0 by omega)]; exact h2
    · refine hag _ w2 ⟨e1.trans e2, i + 1, by omega, ?_, ?_⟩ ?_
      · simp only [wrap_i64 (x := (i : Int) + 1) (by omega) (by omega)]; omega
      · rw [ht, List.any_append, hno]; simp [hq]
      · simp only [wrap_i64 (x := (i : Int) + 1) (by omega) (by omega)]; omega
  · have hi' : i = xs.length := by have : ¬ (i : Int) < (s.len : Int) := of_decide_eq_false hge
                                   omega
    subst hi'
    rw [List.take_length] at hno
    have h2 := hK w1 e1
    rw [hno] at h2
    exact h2
/-- The byte at which a place's digest stands in the block above. -/
def offAt (x : S.Shp) (i k : Nat) : Nat := i / x.aN ^ k % x.aN * x.dN
def badAt (a : Int) (salt : List UInt8) (x : S.Shp) (i : Nat) (bl : List (List UInt8)) (k : Nat) : Bool := !chk a salt (bl.getD (k + 1) []) (offAt x i k : Int) (bl.getD k [])
/-- The climb, after the form: is the way good, and does it end in the root? -/
def wayErr (a : Int) (salt : List UInt8) (x : S.Shp) (i : Nat) (bl : List (List UInt8)) (root : List UInt8) : Int :=
  if (List.range x.h).any (badAt a salt x i bl) then 54 else if S.dg a salt (bl.getD x.h []) == root then 0 else 51
def climbErr (a : Int) (salt : List UInt8) (x : S.Shp) (i : Int) (bl : List (List UInt8)) (root : List UInt8) : Int :=
  if askErr a salt x ≠ 0 then askErr a salt x else if ¬ (0 ≤ i ∧ i < x.c 0) then 13 else if bl.length ≠ x.h + 1 ∨ (bl.any fun b => (b.length : Int) != x.b) then 12 else wayErr a salt x i.toNat bl root
set_option maxHeartbeats 800000 in
theorem climb_s {a i : Int} {x : S.Shp} {p1 p4 p5 : Sl} {salt root : List UInt8} {xs : List (Sl × List UInt8)} {K : Int → World → Prop} {w : World} (ht : Tabs9 w) (hs : Bts w p1 salt) (hp : Parts w p4 xs) (hr : Bts w p5 root) (hi : S.I64 i)
    (hn : xs.length ≤ 100000) (hl : ∀ y ∈ xs, y.2.length ≤ 1000000) (hK : ∀ w', Ext w w' → K (climbErr a salt x i (xs.map (·.2)) root) w') :
    callS Tryz.prog 23 #[.int .i64 a, .slice p1.a p1.len p1.cap, .agg #[.int .i64 x.s, .int .i64 x.b, .int .i64 x.d], .int .i64 i, .slice p4.a p4.len p4.cap, .slice p5.a p5.len p5.cap] [.one (.int .i64)] K w := by
  refine f23_ok ?_
  unfold f23
  unfold climbErr at hK
  have hsl := Bts.len hs
  have hpl := hp.len
  refine box_i fun g w1 e1 hg v1 => ?_
  have v1 : Var w1 g (shC x) := v1
  refine ldSh_i v1 ?_
  refine asked_s (salt := salt) hsl fun w2 e2 => ?_
  have E2 := e1.trans e2
  have v2 := v1.ext e2
  refine cond_i (fun h => ?_) (fun h => ?_)
  · rw [if_pos (by simpa using h)] at hK
    exact hK w2 E2
  have hask : askErr a salt x = 0 := by simpa using h
  rw [if_neg (by simpa using h)] at hK
  obtain ⟨q1, q2, q3, q4⟩ := askErr_ok hask
  have o := S.Shp.ok_of q3
  have hh := S.Shp.h_le o
  refine ldSh_i v2 ?_
  refine sPath_s hi (fun h => by rw [q3] at h; cases h) (fun _ hno w3 e3 => ?_) fun _ n hin hnc pv w3 e3 rp hpvl => ?_
  · rw [if_pos hno] at hK
    exact cond_i (fun _ => hK w3 (E2.trans e3)) (fun h => by cases h)
  subst hin
  rw [if_neg (by omega), Int.toNat_natCast, List.length_map] at hK
  have E3 := E2.trans e3
  have v3 := v2.ext e3
  refine cond_i (fun h => by simp at h) (fun _ => ?_)
  have hany : (xs.map (·.2)).any (fun b => (b.length : Int) != x.b) = xs.any fun y => (y.2.length : Int) != x.b := by rw [List.any_map]; rfl
  rw [hany] at hK
  refine join_i (fun c w' => c = (decide (xs.length ≠ x.h + 1) || xs.any fun y => (y.2.length : Int) != x.b) ∧ Ext w3 w') ?_ fun J hJ => ?_
  rotate_left
  · refine cond_i (fun h => ?_) (fun h => ?_)
    · have : xs.length ≠ x.h + 1 := by
        have : ¬ (p4.len : Int) = (pv.len : Int) := by simpa using h
        omega
      exact hJ _ _ ⟨by rw [decide_eq_true this]; rfl, Fr.refl _ _⟩
    · have : ¬ xs.length ≠ x.h + 1 := by
        have : (p4.len : Int) = (pv.len : Int) := by simpa using h
        omega
      refine containsB_s (q := fun b => (b.length : Int) != x.b) (hp.ext E3) hn (fun y hy R w4 e4 hR => ?_) fun w4 e4 => hJ _ _ ⟨by rw [decide_eq_false this]; rfl, e4⟩
      refine callCap_i Tryz.func47 (by kernel_rfl) (by kernel_rfl) ?_
      show callS Tryz.prog 47 #[.slice y.1.a y.1.len y.1.cap, .pointer (some (at_ g 0))] _ _ _
      refine f47_ok ?_
      unfold f47
      refine ld1_i (l := .int .i64) (o := 1) x.b (v3.ext e4) rfl ?_
      have hyl := Bts.len (hp.each y hy)
      have := hR w4 (Fr.refl _ _)
      rw [hyl]
      exact this
  rintro c w4 ⟨rfl, e4⟩
  have E4 := E3.trans e4
  refine cond_i (fun h => ?_) (fun h => ?_)
  · rw [if_pos (by simpa using h)] at hK
    exact hK w4 E4
  rw [if_neg (by simpa using h)] at hK
  have hxl : xs.length = x.h + 1 := by simp at h; exact h.1
  have hp4 := hp.ext E4
  have rp4 := rp.ext e4
  have v4 := v3.ext e4
  have hwl : IntKind.wrap .i64 ((pv.len : Int) - 1) = ((x.h : Nat) : Int) := by rw [hpvl, show ((x.h + 1 : Nat) : Int) - 1 = ((x.h : Nat) : Int) by omega]; exact wrap_nat (by omega)
  rw [hwl]
  have hpcap := rp.cap
  refine slHi_i (by omega) (by omega) ?_
  rw [Int.toNat_natCast]
  have hcl : (pv.cut 1 0 x.h).len = x.h := by simp [Sl.cut]
  have rcut := Rd.cut rp4 (l := 0) (hi := x.h) (by omega) (by omega)
  rw [Nat.zero_mul, List.drop_zero, Nat.sub_zero, Nat.mul_one] at rcut
  have hgetD : ∀ k (hk : k < xs.length), (xs.map (·.2)).getD k [] = (xs[k]'hk).2 := fun k hk => by simp [List.getD_eq_getElem?_getD, hk]
  unfold wayErr at hK
  refine loop_i (fun (k' : Int) w' => ∃ k : Nat, k' = k ∧ k ≤ x.h ∧ Ext w4 w' ∧ (List.range k).any (badAt a salt x n (xs.map (·.2))) = false) (fun k' _ => x.h - k'.toNat) ⟨0, rfl, by omega, Fr.refl _ _, rfl⟩ ?_
  rintro _ w5 again ⟨k, rfl, hk, e5, hno⟩ hag
  rw [hcl]
  have E5 := E4.trans e5
  have hp5 := hp4.ext e5
  have v5 := v4.ext e5
  refine cond_i (fun hlt => ?_) (fun hge => ?_)
  · have hlt : k < x.h := by have : (k : Int) < (x.h : Int) := of_decide_eq_true hlt
                             omega
    have hpath : ((pathTo x n x.h).take x.h)[k]? = some (vC (n / x.aN ^ k) k) := by rw [List.getElem?_take, if_pos hlt, pathTo_get hk]
    refine elem_i (l := .cpx) (x := cz (n / x.aN ^ k) k) (rcut.ext e5) (by omega) (by omega) (by rw [Int.toNat_natCast]; exact hpath) ?_
    refine ldSh_i v5 ?_
    have hpin := path_in o hnc k
    have hcm := S.Shp.c_max o k
    have h52 : (17179869184 : Nat) < 2 ^ 52 := by decide
    refine sAbove_s q3 (by omega) (by omega) (fun h => absurd ⟨by omega, hpin⟩ h) (fun h => by omega) fun _ _ w6 e6 => ?_
    rw [show ((n / x.aN ^ k % x.aN * x.dN : Nat) : Int) = (offAt x n k : Int) from rfl]
    have hd := Ext.drew w6
    refine ⟨fun y => Ext w6 y, hd, ?_⟩
    refine cond_i (fun h => by simp at h) (fun _ => ?_)
    have hp6 := hp5.ext e6
    obtain ⟨ap, hap⟩ := hp6.rd.some (by omega)
    have hk1 : IntKind.wrap .i64 ((k : Int) + 1) = ((k + 1 : Nat) : Int) := wrap_nat (n := k + 1) (by omega)
    rw [hk1]
    have hx1 : k + 1 < xs.length := by omega
    have hx0 : k < xs.length := by omega
    have hbad : badAt a salt x n (xs.map (·.2)) k = !chk a salt (xs[k + 1]'hx1).2 (offAt x n k : Int) (xs[k]'hx0).2 := by unfold badAt; rw [hgetD _ hx1, hgetD _ hx0]
    refine elemQ_i (l := .slc) (x := (xs[k + 1]'hx1).1) hap (fun y h => (hp6.ext h).rd) (by omega) (by omega) (by rw [Int.toNat_natCast]; exact part_get hp6 hx1) ?_
    refine elemQ_i (l := .slc) (x := (xs[k]'hx0).1) hap (fun y h => (hp6.ext h).rd) (by omega) (by omega) (by rw [Int.toNat_natCast]; exact part_get hp6 hx0) ?_
    have m1 := List.getElem_mem hx1
    have m0 := List.getElem_mem hx0
    generalize xs[k + 1]'hx1 = u at m1 hbad ⊢
    generalize xs[k]'hx0 = z at m0 hbad ⊢
    have E6 := (E5.trans e6).trans hd
    have hlu := hl u m1
    have hlz := hl z m0
    have hoff : offAt x n k ≤ 4096 := by
      have ha1 := o.a1
      have := Nat.mod_lt (n / x.aN ^ k) (show x.aN > 0 by omega)
      have h2 := Nat.mul_le_mul_right x.dN (show n / x.aN ^ k % x.aN ≤ x.aN by omega)
      rw [← o.ba] at h2
      have := o.b2
      unfold offAt; omega
    refine check_s (ht.ext E6) (hs.ext E6) ((hp.each u m1).ext E6) ((hp.each z m0).ext E6) (by omega) hlz ⟨by omega, by omega⟩ fun w7 e7 => ?_
    refine cond_i (fun h => ?_) (fun h => ?_)
    · have h2 : (List.range x.h).any (badAt a salt x n (xs.map (·.2))) = true := List.any_eq_true.2 ⟨k, List.mem_range.2 hlt, by rw [hbad]; exact h⟩
      have := hK w7 (E6.trans e7)
      rw [if_pos h2] at this
      exact this
    · refine hag _ w7 ⟨k + 1, rfl, by omega, ((e5.trans e6).trans hd).trans e7, ?_⟩ (by omega)
      rw [List.range_succ, List.any_append, hno]
      simpa [hbad] using h
  · have hkh : k = x.h := by have : ¬ (k : Int) < (x.h : Int) := of_decide_eq_false hge
                             omega
    subst hkh
    rw [if_neg (by rw [hno]; simp)] at hK
    have hxh : x.h < xs.length := by omega
    have hwh : IntKind.wrap .i64 ((p4.len : Int) - 1) = ((x.h : Nat) : Int) := by rw [hpl, hxl, show ((x.h + 1 : Nat) : Int) - 1 = ((x.h : Nat) : Int) by omega]; exact wrap_nat (by omega)
    rw [hwh]
    refine elem_i (l := .slc) (x := (xs[x.h]'hxh).1) hp5.rd (by omega) (by omega) (by rw [Int.toNat_natCast]; exact part_get hp5 hxh) ?_
    rw [hgetD _ hxh] at hK
    have m0 := List.getElem_mem hxh
    generalize xs[x.h]'hxh = z at m0 hK ⊢
    have hlz := hl z m0
    refine one_i (hp5.each z m0) fun x6 w6 e6 p6 => ?_
    have E6 := E5.trans e6
    have hfl : flatB [(z.1, z.2)] = z.2 := by simp [flatB]
    refine dig_s (salt := salt) (ht.ext E6) (hs.ext E6) p6 (by rw [hfl]; omega) (by simp) (fun h => absurd (digErr_ok q1 q2) h) fun _ r7 w7 e7 o7 => ?_
    rw [hfl] at o7
    have E7 := E6.trans e7
    refine equal_s o7.rd (hr.ext E7) ?_
    refine cond_i (fun h => ?_) (fun h => ?_)
    · have := hK w7 E7
      rw [if_neg (by simpa using h)] at this
      exact this
    · have := hK w7 E7
      rw [if_pos (by simpa using h)] at this
      exact this
end Go.Proofs.YteopoodhclljjaaGreatDoor

/-! Pure09c -/
namespace Go.S
open Go Go.Eng
theorem difR_some : ∀ {xs ys : List (List UInt8)} {p q : List UInt8}, difR xs ys = some (p, q) → p ≠ q ∧ ∃ k, xs[k]? = some p ∧ ys[k]? = some q ∧ ∀ j : Nat, j < k → xs[j]? = ys[j]?
  | [], _, p, q, h => by simp [difR] at h
  | _ :: _, [], p, q, h => by simp [difR] at h
  | x :: xs, y :: ys, p, q, h => by
    rw [difR] at h
    split at h
    · rename_i he
      obtain ⟨h1, k, h2, h3, h4⟩ := difR_some h
      refine ⟨h1, k + 1, by simpa using h2, by simpa using h3, fun j hj => ?_⟩
      cases j with
      | zero => simp [he]
      | succ j => simpa using h4 j (by omega)
    · rename_i he
      simp only [Option.some.injEq, Prod.mk.injEq] at h
      obtain ⟨rfl, rfl⟩ := h
      exact ⟨he, 0, rfl, rfl, fun j hj => by omega⟩
theorem difR_none : ∀ {xs ys : List (List UInt8)}, xs.length = ys.length → difR xs ys = none → xs = ys
  | [], [], _, _ => rfl
  | [], _ :: _, h, _ => by simp at h
  | _ :: _, [], h, _ => by simp at h
  | x :: xs, y :: ys, h, hd => by
    rw [difR] at hd
    split at hd
    · rename_i he
      rw [he, difR_none (by simpa using h) hd]
    · cases hd
/-- Where two ways to one digest part, from the end on, there are two unlike texts with one digest. -/
theorem dif_way {A B : List (List UInt8)} {H : List UInt8 → List UInt8} {off : Nat → Nat} {D : Nat} (hl : A.length = B.length) (hA : ∀ k a b, A[k]? = some a → A[k + 1]? = some b → (b.drop (off k)).take D = H a)
    (hB : ∀ k a b, B[k]? = some a → B[k + 1]? = some b → (b.drop (off k)).take D = H a) (ht : ∀ a b, A[A.length - 1]? = some a → B[A.length - 1]? = some b → H a = H b) {p q : List UInt8} (h : difR A.reverse B.reverse = some (p, q)) : p ≠ q ∧ H p = H q ∧ p ∈ A ∧ q ∈ B := by
  obtain ⟨h1, k, h2, h3, h4⟩ := difR_some h
  have hk : k < A.length := by have := (List.getElem?_eq_some_iff.1 h2).1; simpa using this
  rw [List.getElem?_reverse hk] at h2
  rw [List.getElem?_reverse (by omega), ← hl] at h3
  refine ⟨h1, ?_, List.mem_of_getElem? h2, List.mem_of_getElem? h3⟩
  cases k with
  | zero => exact ht p q h2 h3
  | succ k =>
    have h5 := h4 k (by omega)
    rw [List.getElem?_reverse (by omega), List.getElem?_reverse (by omega), ← hl] at h5
    rw [show A.length - 1 - (k + 1) = A.length - 1 - k - 1 by omega] at h2 h3
    obtain ⟨m, hm⟩ : ∃ m, A.length - 1 - k = m + 1 := ⟨A.length - 1 - k - 1, by omega⟩
    rw [hm] at h2 h3 h5
    rw [Nat.add_sub_cancel] at h2 h3
    have hlt : m + 1 < A.length := by omega
    have ha := List.getElem?_eq_getElem hlt
    rw [← hA m p _ h2 ha, ← hB m q _ h3 (by rw [← h5]; exact ha)]
namespace Shp
variable {x : Shp} {H : List UInt8 → List UInt8} {data : List UInt8}
theorem onPath_way (o : x.Ok) (hH : ∀ y, (H y).length = x.dN) {i : Nat} (hi : i < x.c 0) (k : Nat) (a b : List UInt8) (ha : (x.onPath H data i)[k]? = some a) (hb : (x.onPath H data i)[k + 1]? = some b) : (b.drop (Go.Proofs.YteopoodhclljjaaGreatDoor.offAt x i k)).take x.dN = H a := by
  have hk : k + 1 < x.h + 1 := by have := (List.getElem?_eq_some_iff.1 hb).1; rwa [onPath_len] at this
  rw [onPath_get (by omega)] at ha hb
  cases ha; cases hb
  rw [Go.Proofs.YteopoodhclljjaaGreatDoor.div_pow_succ]
  exact blk_dig o hH (Go.Proofs.YteopoodhclljjaaGreatDoor.path_in o hi k)
theorem onPath_top (o : x.Ok) {i : Nat} (hi : i < x.c 0) : (x.onPath H data i)[x.h]? = some (x.blk H data x.h 0) := by
  rw [onPath_get (Nat.le_refl _)]
  have := Go.Proofs.YteopoodhclljjaaGreatDoor.path_in o hi x.h
  rw [h_top o] at this
  rw [Nat.lt_one_iff.1 this]
theorem onPath_mem (o : x.Ok) (hH : ∀ y, (H y).length = x.dN) {i : Nat} {p : List UInt8} (h : p ∈ x.onPath H data i) : p.length = x.bN := by
  obtain ⟨k, _, rfl⟩ := List.mem_map.1 h
  exact blk_len o hH _ _
end Shp
end Go.S
