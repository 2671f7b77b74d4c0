/- Layer 14 (tail): the law TailMoves. -/
import Derived.Test.YtepjheacppoelaaTail14h
import Derived.Test.YtepjheacppoelaaRowLib3
set_option linter.unusedSimpArgs false
set_option linter.unusedVariables false
namespace Go.Eng
open Go
/-- 's != nil' -/
theorem neNil_i {P : Program} {w : World} {t e sz : Nat} {z : Value} [h : SliceTy P t e sz z] {o1 o2 : Operand} {s : Sl} {K : Bool → World → Prop} (hK : K (!s.a.isNone) w) : semS P (binS .neq t o1 o2 (.slice s.a s.len s.cap) (.slice none 0 0)) (.one .bool) K w := by
  refine ⟨.bool (!s.a.isNone), w, ?_, hK⟩
  have : (binOp .neq t (.slice s.a s.len s.cap) (.slice none 0 0)).run P w = .ok (.bool (!s.a.isNone)) w := by
    simp only [binOp]
    simp [Op.equal, Op.maxDepth, Lib.run_equalIn_slice_nil w 9999 t e s.a s.len s.cap 0 0 h.und]
  have hg : ∀ a b c : Option Addr, (eqGuard .neq t o1 o2 (.slice s.a s.len s.cap) (.slice none 0 0)).run P w = .ok () w := fun _ _ _ => by simp [eqGuard]
  simp only [binS, Sem.run_bind, hg none none none, Result.andThen_ok, this]
end Go.Eng
namespace Go.S
open Go Go.Eng
theorem storeP_err {b raw : List UInt8} {data : Int} (h : (storeP b data raw).1 ≠ 0) : (storeP b data raw).2 = b := by
  unfold storeP at h ⊢
  split
  · rfl
  · rename_i h1
    rw [if_neg h1] at h
    split
    · rfl
    · rename_i h2
      rw [if_neg h2] at h; exact absurd rfl h
theorem empty_load : (loadP ⟨[112], List.replicate (1024 : Int).toNat 0, fun _ => false⟩).2.2 ≠ 0 := by
  have : (loadP ⟨[112], List.replicate (1024 : Int).toNat 0, fun _ => false⟩).2.2 = 30 := by decide +kernel
  rw [this]; decide
end Go.S
namespace Go.Proofs.Ytepjheacppoelaa
open Go Go.Eng
/-- What was stored last, and lies there. -/
def Last (xs : List (Sl × List UInt8)) (s : Sl) (bp : List UInt8) : Prop :=
  bp.length = 1024 ∧ ((s = Sl.nil ∧ (S.loadP ⟨[112], bp, fun _ => false⟩).2.2 ≠ 0) ∨ ∃ x ∈ xs, s = x.1 ∧ 0 < x.2.length ∧ ∃ t, S.loadP ⟨[112], bp, fun _ => false⟩ = (x.2, t, 0))
theorem partAny_i {P : Program} {w : World} {t e : Nat} {z : Value} [SliceTy P t e 1 z] [LeafTy P e] {s : Sl} {xs : List (Sl × List UInt8)} {i : Int} {K : Sl → World → Prop} (h : Parts w s xs) (h0 : 0 ≤ i) (h1 : i.toNat < xs.length) (hK : ∀ x ∈ xs, K x.1 w) :
    semS P (Instr.indexAt t (.slice s.a s.len s.cap) (.int .i64 i)) (.one .adr) (fun a w => semS P (Instr.loadAt e (.pointer (some a))) (.one .slc) K w) w := part_i h h0 h1 (hK _ (List.getElem_mem h1))
theorem TailMoves_s {p0 p1 : Sl} {xs : List (Sl × List UInt8)} {ds : List Int} {K : Bool → World → Prop} {w : World} (hx : Parts w p0 xs) (hds : Rd w p1 1 (ds.map (Value.int .i64)) ∧ ∀ x ∈ ds, S.I64 x) (hK : ∀ w', Ext w w' → K true w') :
    callS Try.prog 5 #[.slice p0.a p0.len p0.cap, .slice p1.a p1.len p1.cap] [.one .bool] K w := by
  refine f5_ok ?_
  unfold f5
  have hxl := hx.len
  have hdl : p1.len = ds.length := by have := hds.1.len; simp at this; omega
  refine anchor_s fun w1 e1 => ?_
  refine cond_i (fun h => by cases h) (fun _ => ?_)
  refine cond_i (fun _ => hK w1 e1) (fun hg => ?_)
  have hg' : xs.length ≤ 20 := by have := of_decide_eq_false hg; omega
  have hx1 := hx.ext e1
  have hds1 := hds.1.ext e1
  refine buildSlice_i ((pc ([112], 1024) ++ pc ([113], 256)).toArray) (by kernel_rfl) rfl (by omega) fun v w2 e2 o2 hvl => ?_
  have hp : PartsIn w2 v [([112], 1024), ([113], 256)] := by
    refine ⟨⟨by simpa [pc] using o2.rd, by simp [hvl], fun c hc => ?_⟩, fun p hp => ?_⟩
    · simp at hc; rcases hc with rfl | rfl <;> rfl
    · simp at hp; rcases hp with rfl | rfl <;> exact ⟨by constructor <;> decide, by decide⟩
  refine drvNew_s hp (fun w' e h => absurd (by decide +kernel) h) fun gd L w3 e3 _ hgd hin d3 => ?_
  have e23 := e2.trans e3
  have hs2 := e2.size
  have hgd1 : w1.heap.size ≤ gd := by omega
  have hin1 : ∀ k, L.inD gd k → w1.heap.size ≤ k := fun k hk => by have := hin k hk; omega
  have own : ∀ {a b : World}, Ext w1 a → Fr (L.inD gd) a b → Ext w1 b := fun h1 h2 => Ext.own h1 h2 hin1
  have own1 : ∀ {a b : World}, Ext w1 a → Fr (fun k => k = gd) a b → Ext w1 b := fun h1 h2 => Fr.own1 h1 h2 hgd1
  have sep : ∀ {xs : List UInt8} {p : Sl}, Bts w1 p xs → xs ≠ [] → ∀ a, p.a = some a → ¬ L.inD gd a.block := fun h hne a ha hk => by
    have := rd_lt h (by simpa using hne) ha; have := hin1 _ hk; omega
  have fp : S.Fit (S.Drv.fresh [([112], 1024), ([113], 256)]) [112] 0 ⟨[112], List.replicate (1024 : Int).toNat 0, fun _ => false⟩ := ⟨by rw [S.at?_fresh]; rfl, rfl, rfl⟩
  have fq : S.Fit (S.Drv.fresh [([112], 1024), ([113], 256)]) [113] 1 ⟨[113], List.replicate (256 : Int).toNat 0, fun _ => false⟩ := ⟨by rw [S.at?_fresh]; rfl, rfl, rfl⟩
  have hl0 : (S.Drv.fresh [([112], 1024), ([113], 256)]).left = -1 := rfl
  have hpl : (List.replicate (1024 : Int).toNat (0 : UInt8)).length = 1024 := by rw [List.length_replicate]; rfl
  have hql : (List.replicate (256 : Int).toNat (0 : UInt8)).length = 256 := by rw [List.length_replicate]; rfl
  have hemp := S.empty_load
  generalize S.Drv.fresh [([112], 1024), ([113], 256)] = D0 at *
  generalize List.replicate (1024 : Int).toNat (0 : UInt8) = bp0 at *
  generalize List.replicate (256 : Int).toNat (0 : UInt8) = bq0 at *
  have hstq : (S.storeP bq0 5 [111, 116, 104, 101, 114]).1 = 0 := S.store_room (by omega) (by decide) (by decide) (by omega) (by rw [hql]; decide)
  have hldq := S.load_stored (nm := [113]) hstq (by omega)
  have al5 : (S.align 5 64).1 = 64 := by decide
  rw [al5] at hldq
  have hbql : (S.storeP bq0 5 [111, 116, 104, 101, 114]).2.length = 256 := by rw [S.storeP_len]; exact hql
  obtain ⟨bq, hbq⟩ : ∃ b, b = (S.storeP bq0 5 [111, 116, 104, 101, 114]).2 := ⟨_, rfl⟩
  rw [← hbq] at hldq hbql
  refine join_i (fun b w' => b = false ∧ w3 = w') ?_ fun J hJ => ?_
  rotate_left
  · refine cond_i (fun h => by cases h) (fun _ => ?_)
    exact ptrEq_i (hJ _ _ ⟨rfl, rfl⟩)
  rintro b w' ⟨rfl, rfl⟩
  refine join_i (fun b w' => b = false ∧ Ext w1 w' ∧ ∃ D, DriveAt w' gd L D ∧ D.left = -1 ∧ S.Fit D [112] 0 ⟨[112], bp0, fun _ => false⟩ ∧ S.Fit D [113] 1 ⟨[113], bq, fun _ => false⟩) ?_ fun J hJ => ?_
  rotate_left
  · refine cond_i (fun h => by cases h) (fun _ => ?_)
    refine bytesConst_i [111, 116, 104, 101, 114] (by kernel_rfl) rfl (by omega) fun u w4 e4 o4 => ?_
    refine fitStore_s (name := ByteArray.mk #[113]) (d3.ext e4) fq hl0 q_toList (by omega) ⟨by omega, by omega⟩ o4.rd (fun _ a ha hd => by have := d3.lt hd; have := (o4.inB ⟨a, ha, rfl⟩).1; omega) fun w5 D5 f5 d5 fit5 l5 _ oth => ?_
    rw [hstq]
    exact hJ _ _ ⟨rfl, own (e23.trans e4) f5, D5, d5, l5, oth _ _ _ (by decide) fp, by rw [hbq]; exact fit5⟩
  rintro b w4 ⟨rfl, E4, D4, d4, l4, fp4, fq4⟩
  refine cond_i (fun h => by cases h) (fun _ => ?_)
  refine loop_i (fun (s : Sl × Int) w' => ∃ (i : Nat) (bp : List UInt8) (D : S.Drv), i ≤ xs.length ∧ s.2 = i ∧ Ext w1 w' ∧ DriveAt w' gd L D ∧ D.left = -1 ∧ S.Fit D [112] 0 ⟨[112], bp, fun _ => false⟩ ∧ S.Fit D [113] 1 ⟨[113], bq, fun _ => false⟩ ∧ Last xs s.1 bp) (fun s _ => xs.length - s.2.toNat) ⟨0, bp0, D4, by omega, rfl, E4, d4, l4, fp4, fq4, hpl, .inl ⟨rfl, hemp⟩⟩ ?_
  rintro ⟨ls, i'⟩ w5 again ⟨i, bp, D5, hi, hi', E5, d5, l5, fp5, fq5, hlast⟩ hag
  dsimp only at hi' hlast ⊢
  subst hi'
  refine cond_i (fun hlt => ?_) (fun hge => ?_)
  · have hilt : i < xs.length := by have := of_decide_eq_true hlt; omega
    refine partAny_i (hx1.ext E5) (by omega) (by rw [Int.toNat_natCast]; exact hilt) fun x hmem => ?_
    have hxb := hx1.each _ hmem
    have hxbl := Bts.len hxb
    refine cond_i (fun _ => hK _ (e1.trans E5)) (fun h2k => ?_)
    refine join_i (fun (at0 : Int) w' => S.I64 at0 ∧ w5 = w') ?_ fun J hJ => ?_
    rotate_left
    · refine cond_i (fun hd => ?_) (fun hd => hJ _ _ ⟨⟨by omega, by omega⟩, rfl⟩)
      have hid : i < ds.length := by have := of_decide_eq_true hd; omega
      refine elem_i (l := .int .i64) (x := ds[i]) (hds1.ext E5) (by omega) (by omega) (by rw [Int.toNat_natCast, List.getElem?_map, List.getElem?_eq_getElem hid]; rfl) ?_
      exact hJ _ _ ⟨hds.2 _ (List.getElem_mem hid), rfl⟩
    rintro at0 w' ⟨hat, rfl⟩
    refine join_i (fun (s : Sl) w' => ∃ (bp' : List UInt8) (D : S.Drv), Ext w1 w' ∧ DriveAt w' gd L D ∧ D.left = -1 ∧ S.Fit D [112] 0 ⟨[112], bp', fun _ => false⟩ ∧ S.Fit D [113] 1 ⟨[113], bq, fun _ => false⟩ ∧ Last xs s bp') ?_ fun J hJ => ?_
    rotate_left
    · refine fitStore_s (name := ByteArray.mk #[112]) d5 fp5 l5 p_toList (by have := hlast.1; omega) hat (hxb.ext E5) (sep hxb) fun w6 D6 f6 d6 fp6 l6 _ oth => ?_
      have fq6 := oth _ _ _ (by decide) fq5
      have E6 := own E5 f6
      by_cases hz : (S.storeP bp at0 x.2).1 = 0
      · rw [hz]
        refine cond_i (fun _ => hJ _ _ ⟨_, D6, E6, d6, l6, fp6, fq6, ?_⟩) (fun h => by cases h)
        obtain ⟨_, q2, _⟩ := S.stored hz (by have := hlast.1; omega)
        exact ⟨by rw [S.storeP_len]; exact hlast.1, .inr ⟨x, hmem, rfl, by omega, _, S.load_stored hz (by have := hlast.1; omega)⟩⟩
      · refine cond_i (fun h => absurd (by simpa using h) hz) (fun _ => ?_)
        rw [S.storeP_err hz] at fp6
        exact hJ _ _ ⟨bp, D6, E6, d6, l6, fp6, fq6, hlast⟩
    rintro s w6 ⟨bp', D6, E6, d6, l6, fp6, fq6, hlast6⟩
    refine fitLoad_s (name := ByteArray.mk #[112]) d6 fp6 p_toList (by show 64 ≤ bp'.length; have := hlast6.1; omega) fun v7 w7 D7 f7 d7 a7 l7 _ dn7 o7 => ?_
    have E7 := own1 E6 f7
    refine alloc_i fun g8 w8 e8 hg8 v8 => ?_
    refine stT_i v8 rfl fun w9 f9 v9 => ?_
    have e79 := Fr.own1 e8 f9 hg8
    have E9 := E7.trans e79
    have next : ∀ w', w9 = w' → again (s, IntKind.wrap .i64 ((i : Int) + 1)) w' := fun w' he => by
      subst he
      refine hag _ w9 ⟨i + 1, bp', D7, by omega, ?_, E9, d7.ext e79, by omega, fp6.same a7 dn7, fq6.same a7 dn7, hlast6⟩ ?_
      · simp only [wrap_i64 (x := (i : Int) + 1) (by omega) (by omega)]; omega
      · simp only [wrap_i64 (x := (i : Int) + 1) (by omega) (by omega)]; omega
    refine eqNil_i ?_
    refine join_i (fun b w' => b = false ∧ w9 = w') (fun b w' ⟨hb, he⟩ => by subst hb; exact cond_i (fun h => by cases h) (fun _ => next _ he)) fun J hJ => ?_
    rcases hlast6.2 with ⟨rfl, hne⟩ | ⟨y, hy, rfl, hpos, t, hl⟩
    · refine cond_i (fun h => ?_) (fun _ => ?_)
      · exfalso; simp [Sl.nil] at h; exact hne h
      · refine neNil_i ?_
        refine join_i (fun b w' => b = false ∧ w9 = w') (fun b w' hb => hJ _ _ hb) fun J2 hJ2 => ?_
        exact cond_i (fun h => by cases h) (fun _ => hJ2 _ _ ⟨rfl, rfl⟩)
    · have hyb := hx1.each _ hy
      obtain ⟨ya, hya⟩ := hyb.some (by have := Bts.len hyb; omega)
      have hn : y.1.a.isNone = false := by rw [hya]; rfl
      rw [hl] at o7 ⊢
      refine cond_i (fun h => by rw [hn] at h; cases h) (fun _ => ?_)
      refine neNil_i ?_
      refine join_i (fun b w' => b = false ∧ w9 = w') (fun b w' hb => hJ _ _ hb) fun J2 hJ2 => ?_
      refine cond_i (fun _ => ?_) (fun h => by rw [hn] at h; cases h)
      refine join_i (fun b w' => b = false ∧ w9 = w') (fun b w' hb => hJ2 _ _ hb) fun J3 hJ3 => ?_
      refine cond_i (fun h => by cases h) (fun _ => ?_)
      refine b2s_i (o7.ext e79).rd ?_
      refine b2s_i (hyb.ext E9) ?_
      exact hJ3 _ _ ⟨by simp, rfl⟩
  · refine fitLoad_s (name := ByteArray.mk #[113]) d5 fq5 q_toList (by show 64 ≤ bq.length; omega) fun v7 w7 D7 f7 d7 _ _ _ _ o7 => ?_
    rw [hldq] at o7 ⊢
    simp only at o7 ⊢
    have E7 := own1 E5 f7
    refine alloc_i fun g8 w8 e8 hg8 v8 => ?_
    refine stT_i v8 rfl fun w9 f9 v9 => ?_
    have v9 : Var w9 g8 (tls ⟨5, 64, 5⟩) := v9
    have e79 := Fr.own1 e8 f9 hg8
    refine join_i (fun b w' => b = true ∧ w9 = w') ?_ fun J hJ => ?_
    rotate_left
    · refine cond_i (fun _ => ?_) (fun h => by cases h)
      refine b2s_i (o7.ext e79).rd ?_
      exact hJ _ _ ⟨by rw [str_toList, show (ByteArray.mk #[111, 116, 104, 101, 114]).toList = [111, 116, 104, 101, 114] by rw [ByteArray.toList_eq]]; rfl, rfl⟩
    rintro b w' ⟨rfl, rfl⟩
    refine join_i (fun b w' => b = true ∧ w9 = w') (fun b w' ⟨hb, he⟩ => by subst hb; subst he; exact hK _ (e1.trans (E7.trans e79))) fun J hJ => ?_
    refine cond_i (fun _ => ?_) (fun h => by cases h)
    refine ldT_i v9 ?_
    refine eqA_i (tls ⟨5, 64, 5⟩) (tls ⟨5, 64, 5⟩) (kT _) (kT _) ?_
    rw [eqT_refl]
    exact hJ _ _ ⟨rfl, rfl⟩
end Go.Proofs.Ytepjheacppoelaa
