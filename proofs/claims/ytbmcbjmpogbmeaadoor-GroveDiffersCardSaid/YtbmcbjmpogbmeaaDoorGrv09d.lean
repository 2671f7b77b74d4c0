/- Layer 9 (grove): a digest checked, and two lists of blocks compared. -/
import Derived.Test.YtbmcbjmpogbmeaaDoorGrv09c
set_option linter.unusedSimpArgs false
set_option linter.unusedVariables false
namespace Go.S
open Go Go.Eng
/-- The first place at which two lists are unlike. -/
def difR : List (List UInt8) → List (List UInt8) → Option (List UInt8 × List UInt8)
  | x :: xs, y :: ys => if x = y then difR xs ys else some (x, y)
  | _, _ => none
theorem difR_step {a b : List (List UInt8)} {k : Nat} (ha : k < a.length) (hb : k < b.length) : difR (a.drop k) (b.drop k) = if a[k] = b[k] then difR (a.drop (k + 1)) (b.drop (k + 1)) else some (a[k], b[k]) := by
  rw [List.drop_eq_getElem_cons ha, List.drop_eq_getElem_cons hb, difR]
theorem difR_end {a b : List (List UInt8)} {k : Nat} (h : a.length ≤ k ∨ b.length ≤ k) : difR (a.drop k) (b.drop k) = none := by
  rcases h with h | h
  · rw [List.drop_of_length_le h]; unfold difR; rfl
  · rw [List.drop_of_length_le h]; unfold difR; split <;> simp_all
end Go.S
namespace Go.Proofs.YtbmcbjmpogbmeaaDoor
open Go Go.Eng
def chk (a : Int) (salt above : List UInt8) (at_ : Int) (below : List UInt8) : Bool := ((S.cut above at_ (S.dsz a)).2 == 0) && (digErr a salt == 0) && (S.dg a salt below == (S.cut above at_ (S.dsz a)).1)
theorem dsz_cases (a : Int) : S.dsz a = 0 ∨ S.dsz a = 32 ∨ S.dsz a = 64 := by
  unfold S.dsz; split
  · simp
  · split <;> simp
theorem check_s {a i : Int} {p1 p2 p4 : Sl} {salt above below : List UInt8} {K : Bool → World → Prop} {w : World} (ht : Tabs9 w) (hs : Bts w p1 salt) (ha : Bts w p2 above) (hb : Bts w p4 below) (hla : above.length ≤ 68719476736) (hlb : below.length ≤ 1000000) (hi : S.I64 i)
    (hK : ∀ w', Ext w w' → K (chk a salt above i below) w') :
    callS Tryd.prog 21 #[.int .i64 a, .slice p1.a p1.len p1.cap, .slice p2.a p2.len p2.cap, .int .i64 i, .slice p4.a p4.len p4.cap] [.one .bool] K w := by
  refine f21_ok ?_
  unfold f21
  unfold chk at hK
  refine dsz_s ?_
  have hz := dsz_cases a
  refine cut_s ha hla hi ⟨by omega, by omega⟩ fun v w1 e1 o1 => ?_
  refine one_i (hb.ext e1) fun x w2 e2 p2 => ?_
  have E2 := e1.trans e2
  have hfl : flatB [(p4, below)] = below := by simp [flatB]
  by_cases hd : digErr a salt = 0
  · refine dig_s (salt := salt) (ht.ext E2) (hs.ext E2) p2 (by rw [hfl]; omega) (by simp) (fun h => absurd hd h) fun _ r w3 e3 o3 => ?_
    rw [hfl] at o3
    refine joinAnd (x := S.dg a salt below == (S.cut above i (S.dsz a)).1) (fun w' e => ?_) fun J hJ _ => ?_
    · have := hK w' ((E2.trans e3).trans e)
      rw [hd] at this
      exact this
    · exact equal_s o3.rd (Own.ext o1 (e2.trans e3)).rd (hJ _ (Fr.refl _ _))
  · refine dig_s (salt := salt) (ht.ext E2) (hs.ext E2) p2 (by rw [hfl]; omega) (by simp) (fun _ => ?_) (fun h => absurd h hd)
    refine joinAnd (x := S.dg a salt below == (S.cut above i (S.dsz a)).1) (fun w' e => hK w' (E2.trans e)) fun J hJ h => ?_
    simp [hd] at h
/-- A list's texts, from the end on. -/
def rv (xs : List (Sl × List UInt8)) : List (List UInt8) := (xs.map (·.2)).reverse
theorem rv_len (xs : List (Sl × List UInt8)) : (rv xs).length = xs.length := by simp [rv]
theorem rv_get {xs : List (Sl × List UInt8)} {k : Nat} (h : k < xs.length) : (rv xs)[k]'(by rw [rv_len]; exact h) = (xs[xs.length - 1 - k]'(by omega)).2 := by
  simp [rv, List.getElem_reverse]
theorem part_get {w : World} {s : Sl} {xs : List (Sl × List UInt8)} (h : Parts w s xs) {i : Nat} (hi : i < xs.length) : (xs.map fun x => slV x.1)[i]? = some (Lf.enc .slc (xs[i]'hi).1) := by simp [hi]; rfl
theorem differ_s {p0 p1 : Sl} {xs ys : List (Sl × List UInt8)} {K : Sl → Sl → Bool → World → Prop} {w : World} (hx : Parts w p0 xs) (hy : Parts w p1 ys) (hlx : xs.length ≤ 1000000) (hly : ys.length ≤ 1000000) (hbx : ∀ x ∈ xs, x.2.length ≤ 68719476736) (hby : ∀ x ∈ ys, x.2.length ≤ 68719476736)
    (hN : S.difR (rv xs) (rv ys) = none → ∀ w', Ext w w' → K Sl.nil Sl.nil false w')
    (hS : ∀ p q, S.difR (rv xs) (rv ys) = some (p, q) → ∀ v1 v2 w', Ext w w' → OwnB w' w.heap.size v1 p → OwnB w' w.heap.size v2 q → K v1 v2 true w') :
    callS Tryd.prog 18 #[.slice p0.a p0.len p0.cap, .slice p1.a p1.len p1.cap] [.one .slc, .one .slc, .one .bool] K w := by
  refine f18_ok ?_
  unfold f18
  have hl0 := hx.len
  have hl1 := hy.len
  have hmin : (if (p1.len : Int) < (p0.len : Int) then (p1.len : Int) else (p0.len : Int)) = ((min xs.length ys.length : Nat) : Int) := by rw [hl0, hl1]; split <;> omega
  rw [hmin]
  have hr0 := rv_len xs
  have hr1 := rv_len ys
  refine loop_i (fun (x : Int) w' => ∃ k : Nat, x = ((k + 1 : Nat) : Int) ∧ k ≤ min xs.length ys.length ∧ Ext w w' ∧ S.difR (rv xs) (rv ys) = S.difR ((rv xs).drop k) ((rv ys).drop k)) (fun x _ => min xs.length ys.length + 1 - x.toNat) ⟨0, rfl, by omega, Fr.refl _ _, rfl⟩ ?_
  rintro _ w1 again ⟨k, rfl, hk, e1, heq⟩ hag
  refine cond_i (fun h => ?_) (fun h => ?_)
  · have hlt : k < min xs.length ys.length := by have : ((k + 1 : Nat) : Int) ≤ ((min xs.length ys.length : Nat) : Int) := of_decide_eq_true h
                                                 omega
    have hkx : k < xs.length := by omega
    have hky : k < ys.length := by omega
    have hd := Ext.drew w1
    refine ⟨fun y => Ext w1 y, hd, ?_⟩
    have hx1 := hx.ext e1
    have hy1 := hy.ext e1
    obtain ⟨ax, hax⟩ := hx1.rd.some (by omega)
    obtain ⟨ay, hay⟩ := hy1.rd.some (by omega)
    have hwx : IntKind.wrap .i64 ((p0.len : Int) - ((k + 1 : Nat) : Int)) = ((xs.length - 1 - k : Nat) : Int) := by rw [hl0, show (xs.length : Int) - ((k + 1 : Nat) : Int) = ((xs.length - 1 - k : Nat) : Int) by omega]; exact wrap_nat (by omega)
    have hwy : IntKind.wrap .i64 ((p1.len : Int) - ((k + 1 : Nat) : Int)) = ((ys.length - 1 - k : Nat) : Int) := by rw [hl1, show (ys.length : Int) - ((k + 1 : Nat) : Int) = ((ys.length - 1 - k : Nat) : Int) by omega]; exact wrap_nat (by omega)
    have hix : xs.length - 1 - k < xs.length := by omega
    have hiy : ys.length - 1 - k < ys.length := by omega
    rw [hwx]
    refine elemQ_i (l := .slc) (x := (xs[xs.length - 1 - k]'hix).1) hax (fun y hy => (hx1.ext hy).rd) (by omega) (by omega) (by rw [Int.toNat_natCast]; exact part_get hx1 hix) ?_
    rw [hwy]
    refine elemQ_i (l := .slc) (x := (ys[ys.length - 1 - k]'hiy).1) hay (fun y h => (hy1.ext h).rd) (by omega) (by omega) (by rw [Int.toNat_natCast]; exact part_get hy1 hiy) ?_
    have gx := rv_get hkx
    have gy := rv_get hky
    have mx := List.getElem_mem hix
    have my := List.getElem_mem hiy
    have hst := S.difR_step (a := rv xs) (b := rv ys) (k := k) (by omega) (by omega)
    rw [gx, gy] at hst
    rw [hst] at heq
    generalize xs[xs.length - 1 - k]'hix = u at heq mx ⊢
    generalize ys[ys.length - 1 - k]'hiy = v at heq my ⊢
    have hu := (hx1.each u mx).ext hd
    have hv := (hy1.each v my).ext hd
    refine equal_s hu hv ?_
    have E1 := e1.trans hd
    refine cond_i (fun h => ?_) (fun h => ?_)
    · have hne : ¬ u.2 = v.2 := by simpa using h
      rw [if_neg hne] at heq
      refine clone_s hu (hbx u mx) fun r1 w2 e2 o2 => ?_
      refine clone_s (hv.ext e2) (hby v my) fun r2 w3 e3 o3 => ?_
      exact hS _ _ heq r1 r2 w3 ((E1.trans e2).trans e3) (Own.base (Own.ext o2 e3) E1.size) (Own.base o3 (E1.trans e2).size)
    · have he : u.2 = v.2 := by simpa using h
      rw [if_pos he] at heq
      have hw : IntKind.wrap .i64 (((k + 1 : Nat) : Int) + 1) = ((k + 1 + 1 : Nat) : Int) := wrap_nat (n := k + 1 + 1) (by omega)
      rw [hw]
      exact hag _ _ ⟨k + 1, rfl, by omega, E1, heq⟩ (by omega)
  · have hge : ¬ k < min xs.length ys.length := by have : ¬ ((k + 1 : Nat) : Int) ≤ ((min xs.length ys.length : Nat) : Int) := of_decide_eq_false h
                                                   omega
    rw [S.difR_end (by omega)] at heq
    exact hN heq w1 e1
end Go.Proofs.YtbmcbjmpogbmeaaDoor
