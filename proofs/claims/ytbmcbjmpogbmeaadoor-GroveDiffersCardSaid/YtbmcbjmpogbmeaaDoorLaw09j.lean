/- Layer 9 (grove): the law GroveDiffers, whatever the texts' lengths. -/
import Derived.Test.YtbmcbjmpogbmeaaDoorLaw09b
import Derived.Test.YtbmcbjmpogbmeaaDoorGrv09d
import Derived.SizedLaws
set_option linter.unusedSimpArgs false
set_option linter.unusedVariables false
namespace Go.Eng
open Go
/-- 'append(s, x...)' of bytes, as long as any slice may be. -/
theorem appendBig_i {P : Program} {w : World} {t ty e sz : Nat} {z : Value} [h : SliceTy P t e sz z] {s x : Sl} {cs ds : List Value} {B : Nat} {K : Sl → World → Prop} (ho : Own w B s sz cs) (hx : Rd w x sz ds) (h1 : ∀ v ∈ ds, v.oneCell' = true)
    (hlen : s.len + x.len ≤ 140737488355328) (hone : ∀ i, P.info? e = some i → i.bytes = 1) (hB : B ≤ w.heap.size) (hK : ∀ v w', Fr s.inB w w' → Own w' B v sz (cs ++ ds) → v.len = s.len + x.len → (∀ k, v.inB k → s.inB k ∨ w.heap.size ≤ k) → K v w') :
    semS P (Builtin.append_ #[t, t] ty #[.slice s.a s.len s.cap, .slice x.a x.len x.cap]) (.one .slc) K w := by
  obtain ⟨i, hi1, hi2, hi3, hi4, hi5, hi6⟩ := h.info
  have hxl := hx.len
  have hol := ho.len
  have hbytes : (s.len + x.len) * i.bytes ≤ 140737488355328 := by
    rw [hone i hi1]; omega
  have hlen' : (cs ++ ds).length = (s.len + x.len) * sz := by rw [List.length_append, hol, hxl, Nat.add_mul]
  -- the new row, where it grows
  have grown : ∀ old, old < s.len + x.len → ∀ (G : Nat), s.len + x.len ≤ G → G ≤ maxLen →
      Own (w.drew.alloc (.cells (cs.toArray ++ ds.toArray ++ Builtin.zeroCells z.cells (G - (s.len + x.len))) e)) B ⟨some ⟨w.heap.size, 0, none⟩, s.len + x.len, G⟩ sz (cs ++ ds) := by
    intro old hold G hG hG'
    have hs : (cs.toArray ++ ds.toArray ++ Builtin.zeroCells z.cells (G - (s.len + x.len))).size = G * sz := by
      simp only [Array.size_append, List.size_toArray, size_zeroCells, hi5, hol, hxl, ← Nat.add_mul]
      congr 1; omega
    have := Own.fresh (w := w.drew) (cells := cs.toArray ++ ds.toArray ++ Builtin.zeroCells z.cells (G - (s.len + x.len))) (e := e) (n := s.len + x.len) (c := G) (sz := sz) (B := B) (fz := (0, 0)) hB hs hG fz0
    have ht : (cs.toArray ++ ds.toArray ++ Builtin.zeroCells z.cells (G - (s.len + x.len))).toList.take ((s.len + x.len) * sz) = cs ++ ds := by
      simp only [Array.toList_append, List.append_assoc]
      rw [← List.append_assoc, ← hlen']
      exact List.take_left
    rwa [ht] at this
  have hgfr : ∀ o, Fr s.inB w (w.drew.alloc o) := fun o => (Ext.trans (Ext.drew w) (Ext.alloc _ _)).fr
  by_cases hroom : s.len + x.len ≤ s.cap
  · -- it has room
    rcases ho.row with ⟨ha, h0, hc0⟩ | ⟨g, cur, e', fz, ha, hBg, hg, hfz, hcs, htk⟩
    · have hx0 : x.len = 0 := by omega
      have hd0 : ds = [] := List.eq_nil_of_length_eq_zero (by rw [hxl, hx0]; simp)
      have hc : cs = [] := List.eq_nil_of_length_eq_zero (by rw [hol, h0]; simp)
      refine ⟨.slice none 0 0, w, ?_, one_dec (l := .slc) (x := Sl.nil) (hK _ w (Fr.refl _ _) ?_ (by simp [h0, hx0]) (fun k hk => by obtain ⟨a, ha, _⟩ := hk; cases ha))⟩
      · rw [ha, h0, hc0, hx0]
        cases hxa : x.a <;> simp [Builtin.append_, run_underlying h.und, sizeOf, typeInfo, hi1, Builtin.lenOf, Builtin.firstCells, loadCells, loadCellsFrom]
      · rw [hc, hd0]; exact Own.nilSl _ _ _
    · have hfit : s.len * sz + ds.length ≤ cur.size := by rw [hxl, hcs, ← Nat.add_mul]; exact Nat.mul_le_mul_right _ hroom
      have hfc : (Builtin.firstCells sz x.len (.slice x.a x.len x.cap)).run P w = .ok ds.toArray w := by
        cases hxa : x.a with
        | none =>
          have := (hx.nil hxa).1
          have hd0 : ds = [] := List.eq_nil_of_length_eq_zero (by rw [hxl, this]; simp)
          rw [hd0]; exact run_firstCells_none w _ _ _ _
        | some b => exact run_firstCells_some w sz x.len b x.len x.cap ds hxl (fun j v hv => hx.cells b hxa j v hv)
      have hst := run_storeRow (P := P) g (s.len * sz) e' fz ds 0 cur w hg hfz (by simpa using hfit) h1
      simp only [Nat.add_zero] at hst
      refine ⟨Lf.enc .slc ⟨s.a, s.len + x.len, s.cap⟩, w.setRow g (cur.toList.take (s.len * sz) ++ ds ++ cur.toList.drop (s.len * sz + ds.length)).toArray, ?_, one_dec (l := .slc) (hK ⟨s.a, s.len + x.len, s.cap⟩ _ ?_ ?_ rfl (fun k hk => .inl hk))⟩
      · simp [Builtin.append_, run_underlying h.und, sizeOf, typeInfo, hi1, hi2, Builtin.lenOf, hroom, hfc, ha, Addr.add_lit, hst, Lf.enc]
      · exact (fr_setRow w g _).mono fun k _ hk => ⟨_, ha, hk.symm⟩
      · refine ⟨hlen', hroom, .inr ⟨g, _, e', fz, ha, hBg, setRow_heap w g cur _ e' fz hg, ?_, ?_, ?_⟩⟩
        · intro j hj
          refine hfz j ?_
          simp at hj
          omega
        · simp; omega
        · show List.take ((s.len + x.len) * sz) _ = _
          rw [htk, ← hlen']
          exact List.take_left
  · -- it grows
    have hxpos : 0 < x.len := by have := ho.cap; omega
    obtain ⟨b, hxa⟩ := hx.some hxpos
    have h63 : ((s.len + x.len : Nat) : Int) ≤ 9223372036854775807 := by omega
    have hcm : ∀ G, G = grownCap w (s.len + x.len) s.cap e → s.len + x.len ≤ G ∧ G ≤ maxLen := fun G hG => by
      subst hG
      exact ⟨grownCap_ge w _ _ e, grownCap_le_maxLen w _ _ e (by unfold maxLen; omega)⟩
    rcases ho.row with ⟨ha, h0, hc0⟩ | ⟨g, cur, e', fz, ha, hBg, hg, hfz, hcs, htk⟩
    · have hc : cs = [] := List.eq_nil_of_length_eq_zero (by rw [hol, h0]; simp)
      have hr := run_append_nil (P := P) w t ty e i z h.und hi1 hi3 b x.len x.cap ds (by rw [hi2]; exact hxl) (fun j v hv => hx.cells b hxa j v hv) hxpos (by omega) (by rw [h0] at hbytes; simp at hbytes; omega)
      have hgr := grown 0 (by omega) (grownCap w (s.len + x.len) s.cap e) (hcm _ rfl).1 (hcm _ rfl).2
      refine ⟨Lf.enc .slc ⟨some ⟨w.heap.size, 0, none⟩, s.len + x.len, grownCap w (s.len + x.len) s.cap e⟩, _, ?_, one_dec (l := .slc) (hK ⟨some ⟨w.heap.size, 0, none⟩, s.len + x.len, grownCap w (s.len + x.len) s.cap e⟩ _ (hgfr _) hgr rfl (fun k hk => .inr ?_))⟩
      · rw [ha, h0, hc0, hxa, hr]
        simp [Lf.enc, hc]
      · obtain ⟨a, ha', rfl⟩ := hk; cases ha'; exact Nat.le_refl _
    · have hr := run_append_grow (P := P) w t ty e i z h.und hi1 hi3 ⟨g, 0, none⟩ s.len s.cap cs (by rw [hi2]; exact hol) (fun j v hv => ho.rd.cells _ ha j v hv) b x.len x.cap ds (by rw [hi2]; exact hxl) (fun j v hv => hx.cells b hxa j v hv) (by omega) h63 (growslice_fits (by omega) hbytes)
      have hgr := grown s.cap (by omega) (grownCap w (s.len + x.len) s.cap e) (hcm _ rfl).1 (hcm _ rfl).2
      refine ⟨Lf.enc .slc ⟨some ⟨w.heap.size, 0, none⟩, s.len + x.len, grownCap w (s.len + x.len) s.cap e⟩, _, ?_, one_dec (l := .slc) (hK ⟨some ⟨w.heap.size, 0, none⟩, s.len + x.len, grownCap w (s.len + x.len) s.cap e⟩ _ (hgfr _) hgr rfl (fun k hk => .inr ?_))⟩
      · rw [ha, hxa, hr]
        rfl
      · obtain ⟨a, ha', rfl⟩ := hk; cases ha'; exact Nat.le_refl _
end Go.Eng
namespace Go.Proofs.YtbmcbjmpogbmeaaDoor
open Go Go.Eng
theorem one_byte : ∀ i, (Tryd.prog).info? 5 = some i → i.bytes = 1 := fun i hi => by
  have h : ((Tryd.prog).info? 5).map (·.bytes) = some 1 := by kernel_rfl
  rw [hi] at h; exact Option.some.inj h
theorem cloneBig_s {s : Sl} {bs : List UInt8} {K : Sl → World → Prop} {w : World} (hs : Bts w s bs) (hlen : bs.length ≤ 140737488355328) (hK : ∀ v w', Ext w w' → OwnB w' w.heap.size v bs → K v w') :
    callS Tryd.prog 35 #[.slice s.a s.len s.cap] [.one .slc] K w := by
  refine f35_ok ?_
  unfold f35
  have hsl := Bts.len hs
  refine eqNil_i ?_
  refine cond_i (fun h => ?_) (fun h => ?_)
  · have hn : s.a = none := by simpa using h
    have h0 := (hs.nil hn).1
    have hc : bs = [] := List.eq_nil_of_length_eq_zero (by omega)
    refine hK Sl.nil w (Fr.refl _ _) ?_
    rw [hc]; exact Own.nilSl _ _ _
  · refine buildSlice_i (sz := 1) #[] (by simp [Instr.fill]) (by simp) (by omega) fun v w1 e1 o1 hl => ?_
    have hb : w.heap.size ≤ w1.heap.size := e1.size
    refine appendBig_i o1 (hs.ext e1) bytes_one (by omega) one_byte hb fun v2 w2 f2 o2 hl2 hin => ?_
    have e2 : Ext w w2 := Ext.own e1 f2 fun i hi => (o1.inB hi).1
    exact hK v2 w2 e2 (by simpa using o2)
theorem differBig_s {p0 p1 : Sl} {xs ys : List (Sl × List UInt8)} {K : Sl → Sl → Bool → World → Prop} {w : World} (hx : Parts w p0 xs) (hy : Parts w p1 ys) (hlx : xs.length ≤ 1000000) (hly : ys.length ≤ 1000000) (hbx : ∀ x ∈ xs, x.2.length ≤ 140737488355328) (hby : ∀ x ∈ ys, x.2.length ≤ 140737488355328)
    (hN : S.difR (rv xs) (rv ys) = none → ∀ w', Ext w w' → K Sl.nil Sl.nil false w')
    (hS : ∀ p q, S.difR (rv xs) (rv ys) = some (p, q) → ∀ v1 v2 w', Ext w w' → OwnB w' w.heap.size v1 p → OwnB w' w.heap.size v2 q → K v1 v2 true w') :
    callS Tryd.prog 18 #[.slice p0.a p0.len p0.cap, .slice p1.a p1.len p1.cap] [.one .slc, .one .slc, .one .bool] K w := by
  refine f18_ok ?_
  unfold f18
  have hl0 := hx.len
  have hl1 := hy.len
  have hmin : (if (p1.len : Int) < (p0.len : Int) then (p1.len : Int) else (p0.len : Int)) = ((min xs.length ys.length : Nat) : Int) := by rw [hl0, hl1]; split <;> omega
  rw [hmin]
  have hr0 := rv_len xs
  have hr1 := rv_len ys
  refine loop_i (fun (x : Int) w' => ∃ k : Nat, x = ((k + 1 : Nat) : Int) ∧ k ≤ min xs.length ys.length ∧ Ext w w' ∧ S.difR (rv xs) (rv ys) = S.difR ((rv xs).drop k) ((rv ys).drop k)) (fun x _ => min xs.length ys.length + 1 - x.toNat) ⟨0, rfl, by omega, Fr.refl _ _, rfl⟩ ?_
  rintro _ w1 again ⟨k, rfl, hk, e1, heq⟩ hag
  refine cond_i (fun h => ?_) (fun h => ?_)
  · have hlt : k < min xs.length ys.length := by have : ((k + 1 : Nat) : Int) ≤ ((min xs.length ys.length : Nat) : Int) := of_decide_eq_true h
                                                 omega
    have hkx : k < xs.length := by omega
    have hky : k < ys.length := by omega
    have hd := Ext.drew w1
    refine ⟨fun y => Ext w1 y, hd, ?_⟩
    have hx1 := hx.ext e1
    have hy1 := hy.ext e1
    obtain ⟨ax, hax⟩ := hx1.rd.some (by omega)
    obtain ⟨ay, hay⟩ := hy1.rd.some (by omega)
    have hwx : IntKind.wrap .i64 ((p0.len : Int) - ((k + 1 : Nat) : Int)) = ((xs.length - 1 - k : Nat) : Int) := by rw [hl0, show (xs.length : Int) - ((k + 1 : Nat) : Int) = ((xs.length - 1 - k : Nat) : Int) by omega]; exact wrap_nat (by omega)
    have hwy : IntKind.wrap .i64 ((p1.len : Int) - ((k + 1 : Nat) : Int)) = ((ys.length - 1 - k : Nat) : Int) := by rw [hl1, show (ys.length : Int) - ((k + 1 : Nat) : Int) = ((ys.length - 1 - k : Nat) : Int) by omega]; exact wrap_nat (by omega)
    have hix : xs.length - 1 - k < xs.length := by omega
    have hiy : ys.length - 1 - k < ys.length := by omega
    rw [hwx]
    refine elemQ_i (l := .slc) (x := (xs[xs.length - 1 - k]'hix).1) hax (fun y hy => (hx1.ext hy).rd) (by omega) (by omega) (by rw [Int.toNat_natCast]; exact part_get hx1 hix) ?_
    rw [hwy]
    refine elemQ_i (l := .slc) (x := (ys[ys.length - 1 - k]'hiy).1) hay (fun y h => (hy1.ext h).rd) (by omega) (by omega) (by rw [Int.toNat_natCast]; exact part_get hy1 hiy) ?_
    have gx := rv_get hkx
    have gy := rv_get hky
    have mx := List.getElem_mem hix
    have my := List.getElem_mem hiy
    have hst := S.difR_step (a := rv xs) (b := rv ys) (k := k) (by omega) (by omega)
    rw [gx, gy] at hst
    rw [hst] at heq
    generalize xs[xs.length - 1 - k]'hix = u at heq mx ⊢
    generalize ys[ys.length - 1 - k]'hiy = v at heq my ⊢
    have hu := (hx1.each u mx).ext hd
    have hv := (hy1.each v my).ext hd
    refine equal_s hu hv ?_
    have E1 := e1.trans hd
    refine cond_i (fun h => ?_) (fun h => ?_)
    · have hne : ¬ u.2 = v.2 := by simpa using h
      rw [if_neg hne] at heq
      refine cloneBig_s hu (hbx u mx) fun r1 w2 e2 o2 => ?_
      refine cloneBig_s (hv.ext e2) (hby v my) fun r2 w3 e3 o3 => ?_
      exact hS _ _ heq r1 r2 w3 ((E1.trans e2).trans e3) (Own.base (Own.ext o2 e3) E1.size) (Own.base o3 (E1.trans e2).size)
    · have he : u.2 = v.2 := by simpa using h
      rw [if_pos he] at heq
      have hw : IntKind.wrap .i64 (((k + 1 : Nat) : Int) + 1) = ((k + 1 + 1 : Nat) : Int) := wrap_nat (n := k + 1 + 1) (by omega)
      rw [hw]
      exact hag _ _ ⟨k + 1, rfl, by omega, E1, heq⟩ (by omega)
  · have hge : ¬ k < min xs.length ys.length := by have : ¬ ((k + 1 : Nat) : Int) ≤ ((min xs.length ys.length : Nat) : Int) := of_decide_eq_false h
                                                   omega
    rw [S.difR_end (by omega)] at heq
    exact hN heq w1 e1

theorem GroveDiffers_s {p0 p1 : Sl} {xs ys : List (Sl × List UInt8)} {K : Bool → World → Prop} {w : World} (hx : Parts w p0 xs ∧ ∀ x ∈ xs, x.2.length ≤ 140737488355328) (hy : Parts w p1 ys ∧ ∀ x ∈ ys, x.2.length ≤ 140737488355328) (ht1 : Tabs w) (ht2 : L.Tabs w) (hK : ∀ w', Ext w w' → K true w') :
    callS Tryd.prog 5 #[.slice p0.a p0.len p0.cap, .slice p1.a p1.len p1.cap] [.one .bool] K w := by
  refine f5_ok ?_
  unfold f5
  have ht : Tabs9 w := ⟨ht1, ht2⟩
  obtain ⟨hx, hbx⟩ := hx
  obtain ⟨hy, hby⟩ := hy
  have hl0 := hx.len
  have hl1 := hy.len
  refine anchor9_s ht fun w1 e1 => ?_
  refine cond_i (fun h => by cases h) (fun _ => ?_)
  refine cond_i (fun _ => hK w1 e1) (fun h => ?_)
  simp only [Bool.or_eq_false_iff, decide_eq_false_iff_not] at h
  have hmin : (if (p1.len : Int) < (p0.len : Int) then (p1.len : Int) else (p0.len : Int)) = ((min xs.length ys.length : Nat) : Int) := by rw [hl0, hl1]; split <;> omega
  have hr0 := rv_len xs
  have hr1 := rv_len ys
  have body : ∀ (r2 r3 : Sl) (r4 : Bool) (w2 : World), Ext w w2 → (match S.difR (rv xs) (rv ys) with | some (p, q) => r4 = true ∧ Bts w2 r2 p ∧ Bts w2 r3 q | none => r4 = false ∧ r2.len = 0 ∧ r3.len = 0) →
      loopS (σ := Int) (fun x5 w again6 =>
        cond (decide (x5 < (if (p1.len : Int) < (p0.len : Int) then (p1.len : Int) else (p0.len : Int))))
          (drawS w fun C w =>
          semQ Tryd.prog C (Instr.indexAt 40 (.slice p0.a p0.len p0.cap) (.int .i64 (IntKind.wrap .i64 ((IntKind.wrap .i64 ((p0.len : Int) - 1)) - x5)))) (.one .adr) (fun x7 =>
          semQ Tryd.prog C (Instr.loadAt 22 (.pointer (some x7))) (.one .slc) (fun x8 =>
          semQ Tryd.prog C (Instr.indexAt 40 (.slice p1.a p1.len p1.cap) (.int .i64 (IntKind.wrap .i64 ((IntKind.wrap .i64 ((p1.len : Int) - 1)) - x5)))) (.one .adr) (fun x9 =>
          semQ Tryd.prog C (Instr.loadAt 22 (.pointer (some x9))) (.one .slc) (fun x10 =>
          cond ((decide ((x8.len : Int) > 500)) || (decide ((x10.len : Int) > 500)))
            (K true w)
            (semS Tryd.prog (convert 22 9 (.slice x8.a x8.len x8.cap)) (.one .str) (fun x11 w =>
            semS Tryd.prog (convert 22 9 (.slice x10.a x10.len x10.cap)) (.one .str) (fun x12 w =>
            cond (!(x11.toList == x12.toList))
              (joinS (σ := Bool) (fun b13 w =>
                joinS (σ := Bool) (fun b15 w =>
                  K b15 w) fun J16 =>
                cond b13
                  (semS Tryd.prog (convert 22 9 (.slice r3.a r3.len r3.cap)) (.one .str) (fun x17 w =>
                    semS Tryd.prog (convert 22 9 (.slice x10.a x10.len x10.cap)) (.one .str) (fun x18 w =>
                    J16 (x17.toList == x18.toList) w) w) w)
                  (J16 false w)) fun J14 =>
              cond r4
                (semS Tryd.prog (convert 22 9 (.slice r2.a r2.len r2.cap)) (.one .str) (fun x19 w =>
                  semS Tryd.prog (convert 22 9 (.slice x8.a x8.len x8.cap)) (.one .str) (fun x20 w =>
                  J14 (x19.toList == x20.toList) w) w) w)
                (J14 false w))
              (again6 (IntKind.wrap .i64 (x5 + 1)) w)) w) w))))))
          (K ((!r4) && ((IntKind.wrap .i64 ((r2.len : Int) + (r3.len : Int))) == 0)) w)) 0 w2 := by
    intro r2 r3 r4 w2 e2 hres
    rw [hmin]
    refine loop_i (fun (x : Int) w' => ∃ k : Nat, x = k ∧ k ≤ min xs.length ys.length ∧ Ext w2 w' ∧ S.difR (rv xs) (rv ys) = S.difR ((rv xs).drop k) ((rv ys).drop k)) (fun x _ => min xs.length ys.length - x.toNat) ⟨0, rfl, by omega, Fr.refl _ _, rfl⟩ ?_
    rintro _ w3 again ⟨k, rfl, hk, e3, heq⟩ hag
    have E3 := e2.trans e3
    refine cond_i (fun h => ?_) (fun h => ?_)
    · have hlt : k < min xs.length ys.length := by have : (k : Int) < ((min xs.length ys.length : Nat) : Int) := of_decide_eq_true h
                                                   omega
      have hkx : k < xs.length := by omega
      have hky : k < ys.length := by omega
      have hd := Ext.drew w3
      refine ⟨fun y => Ext w3 y, hd, ?_⟩
      have hx3 := hx.ext E3
      have hy3 := hy.ext E3
      obtain ⟨ax, hax⟩ := hx3.rd.some (by omega)
      obtain ⟨ay, hay⟩ := hy3.rd.some (by omega)
      have hwx : IntKind.wrap .i64 ((IntKind.wrap .i64 ((p0.len : Int) - 1)) - (k : Int)) = ((xs.length - 1 - k : Nat) : Int) := by
        rw [show (p0.len : Int) - 1 = ((xs.length - 1 : Nat) : Int) by omega, wrap_nat (by omega), show ((xs.length - 1 : Nat) : Int) - (k : Int) = ((xs.length - 1 - k : Nat) : Int) by omega]; exact wrap_nat (by omega)
      have hwy : IntKind.wrap .i64 ((IntKind.wrap .i64 ((p1.len : Int) - 1)) - (k : Int)) = ((ys.length - 1 - k : Nat) : Int) := by
        rw [show (p1.len : Int) - 1 = ((ys.length - 1 : Nat) : Int) by omega, wrap_nat (by omega), show ((ys.length - 1 : Nat) : Int) - (k : Int) = ((ys.length - 1 - k : Nat) : Int) by omega]; exact wrap_nat (by omega)
      have hix : xs.length - 1 - k < xs.length := by omega
      have hiy : ys.length - 1 - k < ys.length := by omega
      rw [hwx]
      refine elemQ_i (l := .slc) (x := (xs[xs.length - 1 - k]'hix).1) hax (fun y hy => (hx3.ext hy).rd) (by omega) (by omega) (by rw [Int.toNat_natCast]; exact part_get hx3 hix) ?_
      rw [hwy]
      refine elemQ_i (l := .slc) (x := (ys[ys.length - 1 - k]'hiy).1) hay (fun y h => (hy3.ext h).rd) (by omega) (by omega) (by rw [Int.toNat_natCast]; exact part_get hy3 hiy) ?_
      have gx := rv_get hkx
      have gy := rv_get hky
      have mx := List.getElem_mem hix
      have my := List.getElem_mem hiy
      have hst := S.difR_step (a := rv xs) (b := rv ys) (k := k) (by omega) (by omega)
      rw [gx, gy] at hst
      rw [hst] at heq
      generalize xs[xs.length - 1 - k]'hix = u at heq mx ⊢
      generalize ys[ys.length - 1 - k]'hiy = v at heq my ⊢
      have E4 := E3.trans hd
      have hu := (hx.ext E4).each u mx
      have hv := (hy.ext E4).each v my
      refine cond_i (fun _ => hK _ E4) (fun h500 => ?_)
      refine b2s_i hu (b2s_i hv ?_)
      rw [str_toList, str_toList]
      refine cond_i (fun h => ?_) (fun h => ?_)
      · have hne : ¬ u.2 = v.2 := by simpa using h
        rw [if_neg hne] at heq
        rw [heq] at hres
        obtain ⟨rfl, h1, h2⟩ := hres
        have e24 := e3.trans hd
        refine join_i (fun c w' => c = true ∧ w3.drew = w') ?_ fun J hJ => ?_
        rotate_left
        · refine cond_i (fun _ => ?_) (fun h => by cases h)
          refine b2s_i (h1.ext e24) (b2s_i hu ?_)
          exact hJ _ _ ⟨by rw [beq_self_eq_true], rfl⟩
        rintro c w' ⟨rfl, rfl⟩
        refine join_i (fun c w' => c = true ∧ w3.drew = w') ?_ fun J hJ => ?_
        rotate_left
        · refine cond_i (fun _ => ?_) (fun h => by cases h)
          refine b2s_i (h2.ext e24) (b2s_i hv ?_)
          exact hJ _ _ ⟨by rw [beq_self_eq_true], rfl⟩
        rintro c w' ⟨rfl, rfl⟩
        exact hK _ E4
      · have he : u.2 = v.2 := by simpa using h
        rw [if_pos he] at heq
        have hw : IntKind.wrap .i64 ((k : Int) + 1) = ((k + 1 : Nat) : Int) := wrap_nat (n := k + 1) (by omega)
        rw [hw]
        exact hag _ _ ⟨k + 1, rfl, by omega, e3.trans hd, heq⟩ (by omega)
    · have hge : ¬ k < min xs.length ys.length := by have : ¬ (k : Int) < ((min xs.length ys.length : Nat) : Int) := of_decide_eq_false h
                                                     omega
      rw [S.difR_end (by omega)] at heq
      rw [heq] at hres
      obtain ⟨rfl, h1, h2⟩ := hres
      rw [h1, h2]
      exact hK w3 E3
  refine differBig_s (hx.ext e1) (hy.ext e1) (by omega) (by omega) hbx hby (fun h w2 e2 => ?_) (fun p q h v1 v2 w2 e2 o1 o2 => ?_)
  · exact body Sl.nil Sl.nil false w2 (e1.trans e2) (by rw [h]; exact ⟨rfl, rfl, rfl⟩)
  · exact body v1 v2 true w2 (e1.trans e2) (by rw [h]; exact ⟨rfl, o1.rd, o2.rd⟩)
/-! ### a list of texts that came in: how long each may be -/
theorem wAll_mem {H : Type} {P : Program} {e : TypeId} : ∀ {l : List (DataW H)} {d : DataW H}, d ∈ l → ∀ n ∈ d.weights P e, n ∈ DataW.weightsAll P e l
  | d' :: r, d, hd, n, hn => by
    simp only [DataW.weightsAll, List.mem_append]
    rcases List.mem_cons.1 hd with rfl | h
    · exact Or.inl hn
    · exact Or.inr (wAll_mem h n hn)
theorem partsS_of_trod {H : Type} {enc : TypeId × Value → H} {P : Program} {W : World} {base : Nat} {held : Bool} {ts : List TypeId} {ds : List (DataW H)} {j : Nat} {t e q : TypeId} {a : Option Addr} {len cap : Nat} {d : DataW H} {ps : List MemPlace}
    (hsz : (DataW.weightsEach P ts ds).all (· ≤ reachBytes) = true) (htj : ts[j]? = some t) (hdj : ds[j]? = some d) (hu : P.underlying t = some (.slice e)) (hu2 : P.underlying e = some (.slice q)) (hq : P.underlying q = some (.int .u8)) (hcq : P.cellsOf q = 1) (hce : P.cellsOf e = 1) (hbq : P.bytesOf q = 1)
    (h : DataW.Trod enc P W base (fun _ => true) held t (.slice a len cap) d ps) : ∃ xs : List (Sl × List UInt8), Parts W ⟨a, len, cap⟩ xs ∧ ∀ x ∈ xs, x.2.length ≤ 140737488355328 := by
  obtain ⟨fuel, hx⟩ := h
  rcases DataW.trod_slice hu hx with ⟨hcs, _⟩ | ⟨x, l, c, elems, rest, m, _, hcs, hxx, hb, hl, hm, hlen, hel, _, _⟩
  · simp [Value.cells] at hcs
    obtain ⟨rfl, rfl, rfl⟩ := hcs
    exact ⟨[], ⟨Rd.nilSl _ _, fun x h => by cases h⟩, fun x h => by cases h⟩
  · simp [Value.cells] at hcs
    obtain ⟨rfl, rfl, rfl⟩ := hcs
    have hd : d = .slice (elems.map (·.1)) (rest.map (·.1)) := (Prod.mk.inj hxx).1
    have key : ∀ i, i < len → ∃ z : Sl × List UInt8, W.cell? (x.add i) = some (slV z.1) ∧ Bts W z.1 z.2 ∧ z.2.length ≤ 140737488355328 := fun i hi => by
      have h1 := hel i hi
      rw [hce, Nat.mul_one, List.getElem?_eq_getElem (by omega)] at h1
      cases hcl : W.cells? base (x.add i) 1 with
      | none => rw [hcl] at h1; simp at h1
      | some cc =>
        rw [hcl] at h1
        obtain ⟨hc1, _, hc3⟩ := World.cells?_some hcl
        obtain ⟨vv, rfl⟩ : ∃ vv, cc = [vv] := by
          match cc, hc1 with
          | [vv], _ => exact ⟨vv, rfl⟩
        have hcell : W.cell? (x.add i) = some vv := by
          have := hc3 0 (by omega)
          simpa [Addr.add] using this
        have h2 : DataW.trod enc P W base (fun _ => true) held m e [vv] = some (elems[i]'(by omega)) := by simpa using h1
        have hmem : (elems[i]'(by omega)).1 ∈ elems.map (·.1) := List.mem_map_of_mem (List.getElem_mem _)
        generalize elems[i]'(by omega) = el at h2 hmem
        obtain ⟨de, pe⟩ := el
        have hshape : ∃ (a2 : Option Addr) (l2 c2 : Nat), vv = .slice a2 l2 c2 := by
          rcases DataW.trod_slice hu2 h2 with ⟨hcs, _⟩ | ⟨x2, l2, c2, _, _, _, _, hcs, _⟩
          · simp at hcs; exact ⟨_, _, _, hcs⟩
          · simp at hcs; exact ⟨_, _, _, hcs⟩
        obtain ⟨a2, l2, c2, rfl⟩ := hshape
        have htrod : DataW.Trod enc P W base (fun _ => true) held e (.slice a2 l2 c2) de pe := ⟨m, by simpa [Value.cells] using h2⟩
        obtain ⟨bs, hbs, _, hdat⟩ := bts_of_trod hu2 hq hcq htrod
        refine ⟨(⟨a2, l2, c2⟩, bs), hcell, hbs, ?_⟩
        rcases hdat with rfl | ⟨zs, rs, rfl, hzl⟩
        · simp
        · have hw := List.all_eq_true.1 hsz _ (DataW.weights_mem_each htj hdj ((zs.length + rs.length) * P.bytesOf q) (by
            rw [hd]
            simp only [DataW.weights, hu, List.mem_cons, List.mem_append]
            exact Or.inr (Or.inl (wAll_mem hmem _ (by simp [DataW.weights, hu2])))))
          have hw : (zs.length + rs.length) * P.bytesOf q ≤ reachBytes := of_decide_eq_true hw
          rw [hbq, Nat.mul_one] at hw
          have : reachBytes = 140737488351232 := rfl
          show bs.length ≤ _
          omega
    have ex : ∃ f : Nat → Sl × List UInt8, ∀ i, i < len → W.cell? (x.add i) = some (slV (f i).1) ∧ Bts W (f i).1 (f i).2 ∧ (f i).2.length ≤ 140737488355328 := by
      refine ⟨fun i => if h : i < len then Classical.choose (key i h) else (Sl.nil, []), fun i hi => ?_⟩
      simp only [dif_pos hi]
      exact Classical.choose_spec (key i hi)
    obtain ⟨f, hf⟩ := ex
    refine ⟨(List.range len).map f, ⟨⟨by simp, hl, (fun h => by cases h), ?_⟩, fun z hz => ?_⟩, fun z hz => ?_⟩
    · rintro y ⟨rfl⟩ i v hv
      rw [List.map_map, List.getElem?_map] at hv
      obtain ⟨k, hk, rfl⟩ := Option.map_eq_some_iff.1 hv
      obtain ⟨hk1, hk2⟩ := List.getElem?_eq_some_iff.1 hk
      rw [List.getElem_range] at hk2
      subst hk2
      exact (hf _ (by simpa using hk1)).1
    · obtain ⟨i, hi, rfl⟩ := List.mem_map.1 hz
      exact (hf i (by simpa using hi)).2.1
    · obtain ⟨i, hi, rfl⟩ := List.mem_map.1 hz
      exact (hf i (by simpa using hi)).2.2
end Go.Proofs.YtbmcbjmpogbmeaaDoor
