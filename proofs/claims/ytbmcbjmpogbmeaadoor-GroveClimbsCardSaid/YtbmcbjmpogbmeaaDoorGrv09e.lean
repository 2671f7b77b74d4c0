/- Layer 9 (grove): the climb from a block to the root. -/
import Derived.Test.YtbmcbjmpogbmeaaDoorGrv09d
import Derived.Test.YtbmcbjmpogbmeaaDoorLib7
set_option linter.unusedSimpArgs false
set_option linter.unusedVariables false
namespace Go.Proofs.YtbmcbjmpogbmeaaDoor
open Go Go.Eng
/-- A closure is called. -/
theorem callCap_i {P : Program} {w : World} {gf : FuncId} {fn : Func} {args cb : Array Value} {ts : List Ty} {K : curTs ts (World → Prop)} (hf : P.funcs[gf]? = some fn) (hn : (fn.name == "runtime.NumGoroutine") = false) (hb : fn.body.isNone = false) (h : callS P gf (args ++ cb) ts K w) :
    callY P (callSem (.func (.func gf) #[] cb) args) ts K w := by
  refine .inl ⟨gf, args ++ cb, ?_, h⟩
  simp [callSem, Deferred.ofValue, invoke, run_callFunc_body hf hn hb]
theorem containsB_s {s : Sl} {xs : List (Sl × List UInt8)} {f : Value} {q : List UInt8 → Bool} {K : Bool → World → Prop} {w : World} (h : Parts w s xs) (hn : xs.length ≤ 100000)
    (hf : ∀ x ∈ xs, ∀ (R : Bool → World → Prop) (w1 : World), Ext w w1 → (∀ w', Ext w1 w' → R (q x.2) w') → callY Tryd.prog (callSem f #[.slice x.1.a x.1.len x.1.cap]) [.one .bool] R w1)
    (hK : ∀ w', Ext w w' → K (xs.any fun x => q x.2) w') : callS Tryd.prog 41 #[.slice s.a s.len s.cap, f] [.one .bool] K w := by
  refine f41_ok ?_
  unfold f41
  refine f57_ok ?_
  unfold f57
  have hsl := h.len
  refine loop_i (fun (x : Int) w' => Ext w w' ∧ ∃ i : Nat, i ≤ xs.length ∧ x = i ∧ ((xs.take i).any fun x => q x.2) = false) (fun x _ => xs.length - x.toNat) ⟨Fr.refl _ _, 0, by omega, rfl, rfl⟩ ?_
  rintro x w1 again ⟨e1, i, hi, rfl, hno⟩ hag
  refine cond_i (fun hlt => ?_) (fun hge => ?_)
  · have hi' : i < xs.length := by have : (i : Int) < (s.len : Int) := of_decide_eq_true hlt
                                   omega
    have h1 := h.ext e1
    have ht : xs.take (i + 1) = xs.take i ++ [xs[i]'hi'] := List.take_succ_eq_append_getElem hi'
    have hmem := List.getElem_mem hi'
    refine elem_i (l := .slc) (x := (xs[i]'hi').1) h1.rd (by omega) (by omega) (by rw [Int.toNat_natCast]; exact part_get h1 hi') ?_
    generalize xs[i]'hi' = d at ht hmem
    refine hf d hmem _ w1 e1 fun w2 e2 => ?_
    refine cond_i (fun hq => ?_) (fun hq => ?_)
    · have : (xs.any fun x => q x.2) = true := List.any_eq_true.2 ⟨d, hmem, hq⟩
      have h2 := hK w2 (e1.trans e2)
      rw [this] at h2
      show K (decide ((i : Int) ≥ 0)) w2
      rw [decide_eq_true (show (i : Int) ≥ 0 by omega)]; exact h2
    · refine hag _ w2 ⟨e1.trans e2, i + 1, by omega, ?_, ?_⟩ ?_
      · simp only [wrap_i64 (x := (i : Int) + 1) (by omega) (by omega)]; omega
      · rw [ht, List.any_append, hno]; simp [hq]
      · simp only [wrap_i64 (x := (i : Int) + 1) (by omega) (by omega)]; omega
  · have hi' : i = xs.length := by have : ¬ (i : Int) < (s.len : Int) := of_decide_eq_false hge
                                   omega
    subst hi'
    rw [List.take_length] at hno
    have h2 := hK w1 e1
    rw [hno] at h2
    exact h2
/-- The byte at which a place's digest stands in the block above. -/
def offAt (x : S.Shp) (i k : Nat) : Nat := i / x.aN ^ k % x.aN * x.dN
def badAt (a : Int) (salt : List UInt8) (x : S.Shp) (i : Nat) (bl : List (List UInt8)) (k : Nat) : Bool := !chk a salt (bl.getD (k + 1) []) (offAt x i k : Int) (bl.getD k [])
/-- The climb, after the form: is the way good, and does it end in the root? -/
def wayErr (a : Int) (salt : List UInt8) (x : S.Shp) (i : Nat) (bl : List (List UInt8)) (root : List UInt8) : Int :=
  if (List.range x.h).any (badAt a salt x i bl) then 54 else if S.dg a salt (bl.getD x.h []) == root then 0 else 51
def climbErr (a : Int) (salt : List UInt8) (x : S.Shp) (i : Int) (bl : List (List UInt8)) (root : List UInt8) : Int :=
  if askErr a salt x ≠ 0 then askErr a salt x else if ¬ (0 ≤ i ∧ i < x.c 0) then 13 else if bl.length ≠ x.h + 1 ∨ (bl.any fun b => (b.length : Int) != x.b) then 12 else wayErr a salt x i.toNat bl root
set_option maxHeartbeats 800000 in
theorem climb_s {a i : Int} {x : S.Shp} {p1 p4 p5 : Sl} {salt root : List UInt8} {xs : List (Sl × List UInt8)} {K : Int → World → Prop} {w : World} (ht : Tabs9 w) (hs : Bts w p1 salt) (hp : Parts w p4 xs) (hr : Bts w p5 root) (hi : S.I64 i)
    (hn : xs.length ≤ 100000) (hl : ∀ y ∈ xs, y.2.length ≤ 1000000) (hK : ∀ w', Ext w w' → K (climbErr a salt x i (xs.map (·.2)) root) w') :
    callS Tryd.prog 24 #[.int .i64 a, .slice p1.a p1.len p1.cap, .agg #[.int .i64 x.s, .int .i64 x.b, .int .i64 x.d], .int .i64 i, .slice p4.a p4.len p4.cap, .slice p5.a p5.len p5.cap] [.one (.int .i64)] K w := by
  refine f24_ok ?_
  unfold f24
  unfold climbErr at hK
  have hsl := Bts.len hs
  have hpl := hp.len
  refine box_i fun g w1 e1 hg v1 => ?_
  have v1 : Var w1 g (shC x) := v1
  refine ldSh_i v1 ?_
  refine asked_s (salt := salt) hsl fun w2 e2 => ?_
  have E2 := e1.trans e2
  have v2 := v1.ext e2
  refine cond_i (fun h => ?_) (fun h => ?_)
  · rw [if_pos (by simpa using h)] at hK
    exact hK w2 E2
  have hask : askErr a salt x = 0 := by simpa using h
  rw [if_neg (by simpa using h)] at hK
  obtain ⟨q1, q2, q3, q4⟩ := askErr_ok hask
  have o := S.Shp.ok_of q3
  have hh := S.Shp.h_le o
  refine ldSh_i v2 ?_
  refine sPath_s hi (fun h => by rw [q3] at h; cases h) (fun _ hno w3 e3 => ?_) fun _ n hin hnc pv w3 e3 rp hpvl => ?_
  · rw [if_pos hno] at hK
    exact cond_i (fun _ => hK w3 (E2.trans e3)) (fun h => by cases h)
  subst hin
  rw [if_neg (by omega), Int.toNat_natCast, List.length_map] at hK
  have E3 := E2.trans e3
  have v3 := v2.ext e3
  refine cond_i (fun h => by simp at h) (fun _ => ?_)
  have hany : (xs.map (·.2)).any (fun b => (b.length : Int) != x.b) = xs.any fun y => (y.2.length : Int) != x.b := by rw [List.any_map]; rfl
  rw [hany] at hK
  refine join_i (fun c w' => c = (decide (xs.length ≠ x.h + 1) || xs.any fun y => (y.2.length : Int) != x.b) ∧ Ext w3 w') ?_ fun J hJ => ?_
  rotate_left
  · refine cond_i (fun h => ?_) (fun h => ?_)
    · have : xs.length ≠ x.h + 1 := by
        have : ¬ (p4.len : Int) = (pv.len : Int) := by simpa using h
        omega
      exact hJ _ _ ⟨by rw [decide_eq_true this]; rfl, Fr.refl _ _⟩
    · have : ¬ xs.length ≠ x.h + 1 := by
        have : (p4.len : Int) = (pv.len : Int) := by simpa using h
        omega
      refine containsB_s (q := fun b => (b.length : Int) != x.b) (hp.ext E3) hn (fun y hy R w4 e4 hR => ?_) fun w4 e4 => hJ _ _ ⟨by rw [decide_eq_false this]; rfl, e4⟩
      refine callCap_i Tryd.func42 (by kernel_rfl) (by kernel_rfl) ?_
      show callS Tryd.prog 42 #[.slice y.1.a y.1.len y.1.cap, .pointer (some (at_ g 0))] _ _ _
      refine f42_ok ?_
      unfold f42
      refine ld1_i (l := .int .i64) (o := 1) x.b (v3.ext e4) rfl ?_
      have hyl := Bts.len (hp.each y hy)
      have := hR w4 (Fr.refl _ _)
      rw [hyl]
      exact this
  rintro c w4 ⟨rfl, e4⟩
  have E4 := E3.trans e4
  refine cond_i (fun h => ?_) (fun h => ?_)
  · rw [if_pos (by simpa using h)] at hK
    exact hK w4 E4
  rw [if_neg (by simpa using h)] at hK
  have hxl : xs.length = x.h + 1 := by simp at h; exact h.1
  have hp4 := hp.ext E4
  have rp4 := rp.ext e4
  have v4 := v3.ext e4
  have hwl : IntKind.wrap .i64 ((pv.len : Int) - 1) = ((x.h : Nat) : Int) := by rw [hpvl, show ((x.h + 1 : Nat) : Int) - 1 = ((x.h : Nat) : Int) by omega]; exact wrap_nat (by omega)
  rw [hwl]
  have hpcap := rp.cap
  refine slHi_i (by omega) (by omega) ?_
  rw [Int.toNat_natCast]
  have hcl : (pv.cut 1 0 x.h).len = x.h := by simp [Sl.cut]
  have rcut := Rd.cut rp4 (l := 0) (hi := x.h) (by omega) (by omega)
  rw [Nat.zero_mul, List.drop_zero, Nat.sub_zero, Nat.mul_one] at rcut
  have hgetD : ∀ k (hk : k < xs.length), (xs.map (·.2)).getD k [] = (xs[k]'hk).2 := fun k hk => by simp [List.getD_eq_getElem?_getD, hk]
  unfold wayErr at hK
  refine loop_i (fun (k' : Int) w' => ∃ k : Nat, k' = k ∧ k ≤ x.h ∧ Ext w4 w' ∧ (List.range k).any (badAt a salt x n (xs.map (·.2))) = false) (fun k' _ => x.h - k'.toNat) ⟨0, rfl, by omega, Fr.refl _ _, rfl⟩ ?_
  rintro _ w5 again ⟨k, rfl, hk, e5, hno⟩ hag
  rw [hcl]
  have E5 := E4.trans e5
  have hp5 := hp4.ext e5
  have v5 := v4.ext e5
  refine cond_i (fun hlt => ?_) (fun hge => ?_)
  · have hlt : k < x.h := by have : (k : Int) < (x.h : Int) := of_decide_eq_true hlt
                             omega
    have hpath : ((pathTo x n x.h).take x.h)[k]? = some (vC (n / x.aN ^ k) k) := by rw [List.getElem?_take, if_pos hlt, pathTo_get hk]
    refine elem_i (l := .cpx) (x := cz (n / x.aN ^ k) k) (rcut.ext e5) (by omega) (by omega) (by rw [Int.toNat_natCast]; exact hpath) ?_
    refine ldSh_i v5 ?_
    have hpin := path_in o hnc k
    have hcm := S.Shp.c_max o k
    have h52 : (17179869184 : Nat) < 2 ^ 52 := by decide
    refine sAbove_s q3 (by omega) (by omega) (fun h => absurd ⟨by omega, hpin⟩ h) (fun h => by omega) fun _ _ w6 e6 => ?_
    rw [show ((n / x.aN ^ k % x.aN * x.dN : Nat) : Int) = (offAt x n k : Int) from rfl]
    have hd := Ext.drew w6
    refine ⟨fun y => Ext w6 y, hd, ?_⟩
    refine cond_i (fun h => by simp at h) (fun _ => ?_)
    have hp6 := hp5.ext e6
    obtain ⟨ap, hap⟩ := hp6.rd.some (by omega)
    have hk1 : IntKind.wrap .i64 ((k : Int) + 1) = ((k + 1 : Nat) : Int) := wrap_nat (n := k + 1) (by omega)
    rw [hk1]
    have hx1 : k + 1 < xs.length := by omega
    have hx0 : k < xs.length := by omega
    have hbad : badAt a salt x n (xs.map (·.2)) k = !chk a salt (xs[k + 1]'hx1).2 (offAt x n k : Int) (xs[k]'hx0).2 := by unfold badAt; rw [hgetD _ hx1, hgetD _ hx0]
    refine elemQ_i (l := .slc) (x := (xs[k + 1]'hx1).1) hap (fun y h => (hp6.ext h).rd) (by omega) (by omega) (by rw [Int.toNat_natCast]; exact part_get hp6 hx1) ?_
    refine elemQ_i (l := .slc) (x := (xs[k]'hx0).1) hap (fun y h => (hp6.ext h).rd) (by omega) (by omega) (by rw [Int.toNat_natCast]; exact part_get hp6 hx0) ?_
    have m1 := List.getElem_mem hx1
    have m0 := List.getElem_mem hx0
    generalize xs[k + 1]'hx1 = u at m1 hbad ⊢
    generalize xs[k]'hx0 = z at m0 hbad ⊢
    have E6 := (E5.trans e6).trans hd
    have hlu := hl u m1
    have hlz := hl z m0
    have hoff : offAt x n k ≤ 4096 := by
      have ha1 := o.a1
      have := Nat.mod_lt (n / x.aN ^ k) (show x.aN > 0 by omega)
      have h2 := Nat.mul_le_mul_right x.dN (show n / x.aN ^ k % x.aN ≤ x.aN by omega)
      rw [← o.ba] at h2
      have := o.b2
      unfold offAt; omega
    refine check_s (ht.ext E6) (hs.ext E6) ((hp.each u m1).ext E6) ((hp.each z m0).ext E6) (by omega) hlz ⟨by omega, by omega⟩ fun w7 e7 => ?_
    refine cond_i (fun h => ?_) (fun h => ?_)
    · have h2 : (List.range x.h).any (badAt a salt x n (xs.map (·.2))) = true := List.any_eq_true.2 ⟨k, List.mem_range.2 hlt, by rw [hbad]; exact h⟩
      have := hK w7 (E6.trans e7)
      rw [if_pos h2] at this
      exact this
    · refine hag _ w7 ⟨k + 1, rfl, by omega, ((e5.trans e6).trans hd).trans e7, ?_⟩ (by omega)
      rw [List.range_succ, List.any_append, hno]
      simpa [hbad] using h
  · have hkh : k = x.h := by have : ¬ (k : Int) < (x.h : Int) := of_decide_eq_false hge
                             omega
    subst hkh
    rw [if_neg (by rw [hno]; simp)] at hK
    have hxh : x.h < xs.length := by omega
    have hwh : IntKind.wrap .i64 ((p4.len : Int) - 1) = ((x.h : Nat) : Int) := by rw [hpl, hxl, show ((x.h + 1 : Nat) : Int) - 1 = ((x.h : Nat) : Int) by omega]; exact wrap_nat (by omega)
    rw [hwh]
    refine elem_i (l := .slc) (x := (xs[x.h]'hxh).1) hp5.rd (by omega) (by omega) (by rw [Int.toNat_natCast]; exact part_get hp5 hxh) ?_
    rw [hgetD _ hxh] at hK
    have m0 := List.getElem_mem hxh
    generalize xs[x.h]'hxh = z at m0 hK ⊢
    have hlz := hl z m0
    refine one_i (hp5.each z m0) fun x6 w6 e6 p6 => ?_
    have E6 := E5.trans e6
    have hfl : flatB [(z.1, z.2)] = z.2 := by simp [flatB]
    refine dig_s (salt := salt) (ht.ext E6) (hs.ext E6) p6 (by rw [hfl]; omega) (by simp) (fun h => absurd (digErr_ok q1 q2) h) fun _ r7 w7 e7 o7 => ?_
    rw [hfl] at o7
    have E7 := E6.trans e7
    refine equal_s o7.rd (hr.ext E7) ?_
    refine cond_i (fun h => ?_) (fun h => ?_)
    · have := hK w7 E7
      rw [if_neg (by simpa using h)] at this
      exact this
    · have := hK w7 E7
      rw [if_pos (by simpa using h)] at this
      exact this
end Go.Proofs.YtbmcbjmpogbmeaaDoor
