/- Layer 17 (the document's reader): itself in memory; its shape, what it remembers, a path, a block fetched, and held. / Layer 17 (the document's reader): a block is read. -/
import Derived.Test.YteopoodhclljjaaGreatDoorG17k
import Derived.Test.YteopoodhclljjaaGreatDoorG17i
set_option linter.unusedSimpArgs false
set_option linter.unusedVariables false
/-! Ref17a -/
namespace Go.Proofs.YteopoodhclljjaaGreatDoor
open Go Go.Eng
open Go.S (Pl Kn Vq Vr klook vfirst vblk vput)
/-! ### lists of places -/
def plcs (l : List Pl) : List Value := l.flatMap fun p => plC p.1 p.2
theorem plcs_len (l : List Pl) : (plcs l).length = l.length * 2 := by
  induction l with
  | nil => rfl
  | cons p l ih =>
    show (plC p.1 p.2 ++ plcs l).length = _
    rw [List.length_append, ih, List.length_cons]
    show 2 + _ = _
    omega
theorem plcs_get : ∀ {l : List Pl} {i : Nat} {p : Pl}, l[i]? = some p → ∀ j v, (plC p.1 p.2)[j]? = some v → (plcs l)[i * 2 + j]? = some v
  | [], i, p, h, _, _, _ => by simp at h
  | x :: l, 0, p, h, j, v, hv => by
    simp at h; subst h
    have hj := (List.getElem?_eq_some_iff.1 hv).1
    show (plC x.1 x.2 ++ plcs l)[_]? = _
    rw [Nat.zero_mul, Nat.zero_add, List.getElem?_append_left hj]; exact hv
  | x :: l, i + 1, p, h, j, v, hv => by
    show (plC x.1 x.2 ++ plcs l)[_]? = _
    have hl : (plC x.1 x.2).length = 2 := rfl
    rw [List.getElem?_append_right (by rw [hl]; omega), hl, show (i + 1) * 2 + j - 2 = i * 2 + j by omega]
    exact plcs_get (by simpa using h) j v hv
theorem plcs_snoc (l : List Pl) (p : Pl) : plcs (l ++ [p]) = plcs l ++ plC p.1 p.2 := by
  unfold plcs; rw [List.flatMap_append]; simp
theorem plC_one {i l : Nat} : ∀ v ∈ plC i l, v.oneCell' = true := fun v hv => by
  simp only [plC, List.mem_cons, List.not_mem_nil, or_false] at hv
  rcases hv with rfl | rfl <;> rfl
theorem rd_plcs {w : World} {s : Sl} {l : List Pl} (h : Rd w s 2 (plcs l)) : s.len = l.length := by have := h.len; rw [plcs_len] at this; omega
section
variable {P : Program} {w : World} {t e : TypeId} {z : Value}
theorem ldP_i [SliceTy P t e 2 z] [AggTy P e 2] {s : Sl} {l : List Pl} {i : Int} {p : Pl} {K : Int → Int → World → Prop} (h : Rd w s 2 (plcs l)) (h0 : 0 ≤ i) (hp : l[i.toNat]? = some p) (hK : K (p.1 : Int) (p.2 : Int) w) :
    semS P (Instr.indexAt t (.slice s.a s.len s.cap) (.int .i64 i)) (.one .adr) (fun a w => semS P (Instr.loadAt e (.pointer (some a))) (.agg [.int .i64, .int .i64]) K w) w := by
  have hl := rd_plcs h
  have hi := (List.getElem?_eq_some_iff.1 hp).1
  obtain ⟨a, ha⟩ := h.some (by omega)
  refine ix_i ha h0 (by omega) ?_
  exact ldA_i (n := 2) (ls := [.int .i64, .int .i64]) (cs := plC p.1 p.2) rfl (fun j v hv => by rw [add_add']; exact h.cells a ha _ _ (plcs_get hp j v hv)) hK
theorem ldPQ_i [SliceTy P t e 2 z] [AggTy P e 2] {s : Sl} {l : List Pl} {i : Int} {p : Pl} {C : World → Prop} {K : Int → Int → Prop} {a : Addr} (ha : s.a = some a) (h : ∀ w, C w → Rd w s 2 (plcs l)) (hl : s.len = l.length) (h0 : 0 ≤ i) (hp : l[i.toNat]? = some p) (hK : K (p.1 : Int) (p.2 : Int)) :
    semQ P C (Instr.indexAt t (.slice s.a s.len s.cap) (.int .i64 i)) (.one .adr) (fun a => semQ P C (Instr.loadAt e (.pointer (some a))) (.agg [.int .i64, .int .i64]) K) := by
  have hi := (List.getElem?_eq_some_iff.1 hp).1
  refine ixQ_i ha h0 (by omega) ?_
  exact ldAQ_i (n := 2) (ls := [.int .i64, .int .i64]) (plC p.1 p.2) rfl (fun w hw j v hv => by rw [add_add']; exact (h w hw).cells a ha _ _ (plcs_get hp j v hv)) hK
end
/-! ### the reader in memory -/
structure RM where
  kn : Sl
  bl : Sl
  tr : Sl
  kl : List KE
  trc : List (Sl × List UInt8)
  broken : Bool
def RM.pure (M : RM) : Vr := ⟨M.broken, knP M.kl, M.trc.map (·.2)⟩
def RM.pls (M : RM) : List Pl := M.kl.map (·.p)
def rCells (X : VX) (M : RM) : List Value :=
  [.string (str pn), .int .i64 X.d.kind, .int .i64 X.d.alg, .int .i64 X.d.size, .int .i64 X.d.blk, .int .i64 X.d.off, .int .i64 X.d.loc, .string (str X.d.name), slV X.d.salt.1, slV X.d.dig.1, slV X.d.key.1, slV X.d.val.1, .int .i64 X.mode, slV M.kn, slV M.bl, .bool M.broken, slV M.tr]
def RM.mut (M : RM) (X : VX) (k : Nat) : Prop := k = X.gr ∨ M.kn.inB k ∨ M.bl.inB k
def RM.imm (M : RM) (X : VX) (k : Nat) : Prop := M.tr.inB k ∨ (∃ x ∈ M.trc, x.1.inB k) ∨ (∃ e ∈ M.kl, e.s.inB k) ∨ (X.d.salt.2 ≠ [] ∧ X.d.salt.1.inB k) ∨ (X.d.dig.2 ≠ [] ∧ X.d.dig.1.inB k)
structure RAt (w : World) (X : VX) (M : RM) : Prop where
  var : Var w X.gr (rCells X M)
  kn : Own w 0 M.kn 2 (plcs M.pls)
  bl : Own w 0 M.bl 1 (M.kl.map fun e => slV e.s)
  each : ∀ e ∈ M.kl, Bts w e.s e.b ∧ e.b.length ≤ 4096
  tr : Rd w M.tr 1 (M.trc.map fun x => slV x.1)
  trc : ∀ x ∈ M.trc, Bts w x.1 x.2 ∧ x.2.length ≤ 4096
  salt : Bts w X.d.salt.1 X.d.salt.2
  dig : Bts w X.d.dig.1 X.d.dig.2
  sep : ∀ k, M.imm X k → ¬ M.mut X k ∧ k < w.heap.size
  ne : ¬ M.kn.inB X.gr ∧ ¬ M.bl.inB X.gr ∧ ∀ k, M.kn.inB k → ¬ M.bl.inB k
section
variable {w w' : World} {X : VX} {M : RM} {T : PT}
theorem RAt.mlt (h : RAt w X M) {k : Nat} (hk : M.mut X k) : k < w.heap.size := by
  rcases hk with rfl | hk | hk
  · exact h.var.lt
  · exact (h.kn.inB hk).2
  · exact (h.bl.inB hk).2
theorem RAt.in (h : RAt w X M) {k : Nat} (hk : M.mut X k ∨ M.imm X k) : k < w.heap.size := hk.elim h.mlt fun hk => (h.sep k hk).2
theorem RAt.fr {S : Nat → Prop} (h : RAt w X M) (hf : Fr S w w') (hs : ∀ k, M.mut X k ∨ M.imm X k → ¬ S k) : RAt w' X M := by
  have hi : ∀ {s : Sl}, (∀ k, s.inB k → M.imm X k) → ∀ a, s.a = some a → ¬ S a.block := fun h1 a ha => hs _ (.inr (h1 _ ⟨a, ha, rfl⟩))
  exact ⟨h.var.fr hf (hs _ (.inl (.inl rfl))), h.kn.fr hf fun a ha => hs _ (.inl (.inr (.inl ⟨a, ha, rfl⟩))), h.bl.fr hf fun a ha => hs _ (.inl (.inr (.inr ⟨a, ha, rfl⟩))), fun e he => ⟨(h.each e he).1.fr hf (hi fun k hk => .inr (.inr (.inl ⟨e, he, hk⟩))), (h.each e he).2⟩,
    h.tr.fr hf (hi fun k hk => .inl hk), fun x hx => ⟨(h.trc x hx).1.fr hf (hi fun k hk => .inr (.inl ⟨x, hx, hk⟩)), (h.trc x hx).2⟩, rd_fr_ne h.salt hf fun hne a ha => hs _ (.inr (.inr (.inr (.inr (.inl ⟨by simpa using hne, a, ha, rfl⟩))))), rd_fr_ne h.dig hf fun hne a ha => hs _ (.inr (.inr (.inr (.inr (.inr ⟨by simpa using hne, a, ha, rfl⟩))))),
    fun k hk => ⟨(h.sep k hk).1, Nat.lt_of_lt_of_le (h.sep k hk).2 hf.size⟩, h.ne⟩
theorem RAt.ext (h : RAt w X M) (e : Ext w w') : RAt w' X M := h.fr e fun _ _ => id
theorem RAt.len (h : RAt w X M) : M.kn.len = M.kl.length ∧ M.bl.len = M.kl.length := by
  refine ⟨?_, own_map h.bl⟩
  have := rd_plcs h.kn.rd
  unfold RM.pls at this
  rwa [List.length_map] at this
theorem RM.pls_get {i : Nat} {e : KE} (h : M.kl[i]? = some e) : M.pls[i]? = some e.p := by unfold RM.pls; rw [List.getElem?_map, h]; rfl
theorem rShape_s {K : Int → Int → Int → World → Prop} (h : RAt w X M) (hK : ∀ w', Ext w w' → K X.x.s X.x.b X.x.d w') : callS Tryz.prog 12 #[.pointer (some (at_ X.gr 0))] [.agg [.int .i64, .int .i64, .int .i64]] K w := by
  refine f12_ok ?_
  unfold f12
  refine alloc_i fun g w1 e1 hg v1 => ?_
  have hd := Ext.drew w1
  have h1 := h.ext e1
  refine ⟨fun y => Ext w1 y, hd, ?_⟩
  refine nil_i rfl ?_
  refine ld1Q_i (l := .int .i64) (o := 3) X.d.size (fun y hy => h1.var.ext hy) rfl ?_
  refine nil_i rfl ?_
  refine ld1Q_i (l := .int .i64) (o := 4) X.d.blk (fun y hy => h1.var.ext hy) rfl ?_
  refine nil_i rfl ?_
  refine ld1Q_i (l := .int .i64) (o := 2) X.d.alg (fun y hy => h1.var.ext hy) rfl ?_
  refine rdsz_s ?_
  refine more_i hd ?_
  refine stSh_i (x := X.x) (v1.ext hd) rfl fun w2 f2 v2 => ?_
  exact resV_i (n := 3) v2 rfl (hK w2 (Fr.own1 (e1.trans hd) f2 hg))
theorem rOffset_s {x : S.Shp} {i l : Nat} {K : Int → World → Prop} {w : World} (o : x.Ok) (hi : i < x.c l) (hl : l ≤ x.h) (hK : ∀ w', Ext w w' → K (((i + x.sumA l) * x.bN : Nat) : Int) w') :
    callS Tryz.prog 70 #[.agg #[.int .i64 x.s, .int .i64 x.b, .int .i64 x.d], .agg #[.int .i64 (i : Int), .int .i64 (l : Int)]] [.one (.int .i64)] K w := by
  refine f70_ok ?_
  unfold f70
  refine box_i fun g w1 e1 hg v1 => ?_
  have v1 : Var w1 g (shC x) := v1
  refine box_i fun g2 w2 e2 hg2 v2 => ?_
  have v2 : Var w2 g2 (plC i l) := v2
  refine ldSh_i (v1.ext e2) ?_
  refine rCounts_s o fun v w3 e3 o3 => ?_
  have hvl : v.len = x.h + 1 := by have := o3.len; simp [S.Shp.cs_len] at this; omega
  have hh := S.Shp.h_le o
  have hcm := S.Shp.c_max o l
  have hw0 : IntKind.wrap .i64 ((v.len : Int) - 1) = ((x.h : Nat) : Int) := by rw [hvl, show ((x.h + 1 : Nat) : Int) - 1 = ((x.h : Nat) : Int) by omega]; exact wrap_nat (by omega)
  rw [hw0]
  refine loop_i (fun (st : Int × Int) w' => ∃ k : Nat, st.2 = k ∧ st.1 = (x.sumA k : Int) ∧ l ≤ k ∧ k ≤ x.h ∧ Ext w3 w') (fun st _ => st.2.toNat) ⟨x.h, rfl, by rw [S.Shp.sumA_top]; rfl, hl, Nat.le_refl _, Fr.refl _ _⟩ ?_
  rintro ⟨acc, lv⟩ w4 again ⟨k, h1, h2, hlk, hkh, e4⟩ hag
  dsimp only at h1 h2 ⊢
  subst h1; subst h2
  have v4 := (v2.ext e3).ext e4
  refine ld1_i (l := .int .i64) (o := 1) (l : Int) v4 rfl ?_
  refine cond_i (fun hgt => ?_) (fun hle => ?_)
  · have hgt : l < k := by have : (k : Int) > (l : Int) := of_decide_eq_true hgt
                           omega
    obtain ⟨k, rfl⟩ : ∃ m, k = m + 1 := ⟨k - 1, by omega⟩
    refine elem_i (l := .int .i64) (x := (x.c (k + 1) : Int)) (o3.rd.ext e4) (by omega) (by omega) (by rw [Int.toNat_natCast, List.getElem?_map, S.Shp.cs_get hkh]; rfl) ?_
    have hst := S.Shp.sumA_step (x := x) (l := k) (by omega)
    have hsl := S.Shp.sumA_le o k
    have e1' : IntKind.wrap .i64 ((x.sumA (k + 1) : Int) + (x.c (k + 1) : Int)) = (x.sumA k : Int) := by rw [← Int.natCast_add, show x.sumA (k + 1) + x.c (k + 1) = x.sumA k by omega]; exact wrap_nat (by omega)
    have e2' : IntKind.wrap .i64 (((k + 1 : Nat) : Int) - 1) = (k : Int) := by rw [show ((k + 1 : Nat) : Int) - 1 = (k : Int) by omega]; exact wrap_nat (by omega)
    rw [e1', e2']
    exact hag _ _ ⟨k, rfl, rfl, by omega, by omega, e4⟩ (by dsimp only; omega)
  · have hkl : k = l := by have : ¬ (k : Int) > (l : Int) := of_decide_eq_false hle
                           omega
    subst hkl
    refine ld1_i (l := .int .i64) (o := 0) (i : Int) v4 rfl ?_
    refine ld1_i (l := .int .i64) (o := 1) x.b (((v1.ext e2).ext e3).ext e4) rfl ?_
    have hsl := S.Shp.sumA_le o k
    rw [← Int.natCast_add, wrap_nat (by omega), mulB_i o (by omega), Nat.add_comm (x.sumA k) i]
    exact hK w4 (((e1.trans e2).trans e3).trans e4)
theorem rknown_s {p : Pl} {K : Int → World → Prop} (h : RAt w X M) (hl : M.kl.length ≤ 1000000) (hN : kfind M.kl p = none → ∀ w', Ext w w' → K (-1) w') (hS : ∀ (i : Nat) e, M.kl[i]? = some e → e.p = p → kfind M.kl p = some e → ∀ w', Ext w w' → K (i : Int) w') :
    callS Tryz.prog 38 #[.pointer (some (at_ X.gr 0)), .agg #[.int .i64 (p.1 : Int), .int .i64 (p.2 : Int)]] [.one (.int .i64)] K w := by
  refine f38_ok ?_
  unfold f38
  refine box_i fun g w1 e1 hg v1 => ?_
  have v1 : Var w1 g (plC p.1 p.2) := v1
  have hlen := h.len.1
  refine loop_i (fun (x : Int) w' => ∃ k : Nat, x = k ∧ k ≤ M.kl.length ∧ Ext w1 w' ∧ ∀ (j : Nat) e, j < k → M.kl[j]? = some e → e.p ≠ p) (fun x _ => M.kl.length - x.toNat) ⟨0, rfl, Nat.zero_le _, Fr.refl _ _, fun j e hj => by omega⟩ ?_
  rintro _ w2 again ⟨k, rfl, hk, e2, hno⟩ hag
  have E2 := e1.trans e2
  have h2 := h.ext E2
  refine nil_i rfl ?_
  refine ld1_i (l := .slc) (o := 13) M.kn h2.var rfl ?_
  refine cond_i (fun hlt => ?_) (fun hge => ?_)
  · have hlt : k < M.kl.length := by have : (k : Int) < (M.kn.len : Int) := of_decide_eq_true hlt
                                     omega
    have hd := Ext.drew w2
    have hge : M.kl[k]? = some (M.kl[k]'hlt) := List.getElem?_eq_getElem hlt
    generalize M.kl[k]'hlt = e at hge
    refine ⟨fun y => Ext w2 y, hd, ?_⟩
    refine nil_i rfl ?_
    refine ld1Q_i (l := .slc) (o := 13) M.kn (fun y hy => h2.var.ext hy) rfl ?_
    obtain ⟨a, ha⟩ := h2.kn.rd.some (by omega)
    refine ldPQ_i (l := M.pls) ha (fun y hy => h2.kn.rd.ext hy) (rd_plcs h2.kn.rd) (by omega) (by rw [Int.toNat_natCast]; exact RM.pls_get hge) ?_
    refine ldVQ_i (n := 2) (ls := [.int .i64, .int .i64]) 0 (fun y hy => (v1.ext e2).ext hy) (Nat.le_refl 2) ?_
    have hk2 : ∀ q : Pl, Kinds [.int .i64, .int .i64] (plC q.1 q.2) := fun q => ⟨⟨(q.1 : Int), rfl⟩, ⟨(q.2 : Int), rfl⟩, trivial⟩
    refine eqAQ_i (plC e.p.1 e.p.2) (plC p.1 p.2) (hk2 e.p) (hk2 p) ?_
    have heq : eqCells (plC e.p.1 e.p.2) (plC p.1 p.2) = decide (e.p = p) := by
      unfold plC eqCells eqCells eqCells valueEq
      rw [Bool.eq_iff_iff]
      simp only [Bool.and_true, Bool.and_eq_true, beq_iff_eq, decide_eq_true_eq]
      constructor
      · rintro ⟨h1, h2⟩; exact Prod.ext (by omega) (by omega)
      · intro h; subst h; exact ⟨rfl, rfl⟩
    rw [heq]
    refine cond_i (fun h' => ?_) (fun h' => ?_)
    · have he : e.p = p := of_decide_eq_true h'
      refine hS k e hge he ?_ _ (E2.trans hd)
      unfold kfind
      rw [List.find?_eq_some_iff_getElem]
      obtain ⟨hk1, hk2⟩ := List.getElem?_eq_some_iff.1 hge
      refine ⟨by simpa using he, k, hk1, hk2, fun j hj => ?_⟩
      have := hno j _ hj (List.getElem?_eq_getElem (by omega))
      simpa using this
    · have he : e.p ≠ p := of_decide_eq_false h'
      have hw : IntKind.wrap .i64 ((k : Int) + 1) = ((k + 1 : Nat) : Int) := wrap_nat (n := k + 1) (by omega)
      rw [hw]
      refine hag _ _ ⟨k + 1, rfl, by omega, e2.trans hd, fun j e' hj he' => ?_⟩ (by omega)
      rcases Nat.lt_or_ge j k with h1 | h1
      · exact hno j e' h1 he'
      · rw [show j = k by omega, hge] at he'
        cases he'; exact he
  · have hge : k = M.kl.length := by have : ¬ (k : Int) < (M.kn.len : Int) := of_decide_eq_false hge
                                     omega
    refine hN ?_ w2 E2
    unfold kfind
    rw [List.find?_eq_none]
    intro e he
    obtain ⟨j, hj⟩ := List.getElem?_of_mem he
    have := hno j e (by rw [hge]; exact (List.getElem?_eq_some_iff.1 hj).1) hj
    simpa using this
def plTo (x : S.Shp) (n k : Nat) : List Pl := (List.range (k + 1)).map (x.pl n)
theorem plTo_succ (x : S.Shp) (n k : Nat) : plTo x n (k + 1) = plTo x n k ++ [x.pl n (k + 1)] := by unfold plTo; rw [List.range_succ (n := k + 1), List.map_append]; rfl
theorem plTo_get {x : S.Shp} {n k j : Nat} (h : j ≤ k) : (plTo x n k)[j]? = some (x.pl n j) := by unfold plTo; rw [List.getElem?_map, List.getElem?_range (by omega)]; rfl
theorem plTo_len (x : S.Shp) (n k : Nat) : (plTo x n k).length = k + 1 := by simp [plTo]
theorem rpath_s {n : Nat} {K : Sl → World → Prop} (h : RAt w X M) (hx : XOk X) (hn : n < X.x.c 0) (hK : ∀ v w', Ext w w' → Own w' w.heap.size v 2 (plcs (plTo X.x n X.x.h)) → K v w') :
    callS Tryz.prog 37 #[.pointer (some (at_ X.gr 0)), .int .i64 (n : Int)] [.one .slc] K w := by
  refine f37_ok ?_
  unfold f37
  have o : X.x.Ok := hx.q.x
  have hh := S.Shp.h_le o
  have hcm := S.Shp.c_max o 0
  refine rShape_s h fun w1 e1 => ?_
  refine alloc_i fun g w2 e2 hg v2 => ?_
  refine stSh_i (x := X.x) v2 rfl fun w3 f3 v3 => ?_
  refine alloc_i fun g2 w4 e4 hg2 v4 => ?_
  refine stV_i (n := 2) (vs := plC n 0) 0 v4 rfl (Nat.le_refl 2) plC_one fun w5 f5 v5 => ?_
  have v5 : Var w5 g2 (plC n 0) := v5
  have hgl := v3.lt
  have hne : g ≠ g2 := by omega
  have v35 : Var w5 g (shC X.x) := (v3.ext e4).fr f5 hne
  have E3 : Ext w w3 := Fr.own1 (e1.trans e2) f3 (by have := e1.size; omega)
  have E5 : Ext w w5 := Fr.own1 (E3.trans e4) f5 (by have := E3.size; omega)
  refine ldV_i (n := 2) (ls := [.int .i64, .int .i64]) 0 v5 (Nat.le_refl 2) ?_
  refine buildSlice_i (plC n 0).toArray (by kernel_rfl) rfl (by omega) fun v w6 e6 o6 hvl => ?_
  have s1 := e1.size
  have s5 := E5.size
  have s3 := E3.size
  have hg2w : w.heap.size ≤ g2 := by omega
  have h0 : plTo X.x n 0 = [(n, 0)] := by unfold plTo S.Shp.pl; simp
  refine loop_i (fun (st : Sl × Int) w' => ∃ k : Nat, st.2 = ((k + 1 : Nat) : Int) ∧ k ≤ X.x.h ∧ Ext w w' ∧ Var w' g (shC X.x) ∧ Var w' g2 (plC (n / X.x.aN ^ k) k) ∧ Own w' w5.heap.size st.1 2 (plcs (plTo X.x n k))) (fun st _ => X.x.h + 2 - st.2.toNat)
    ⟨0, by rfl, Nat.zero_le _, E5.trans e6, v35.ext e6, by rw [Nat.pow_zero, Nat.div_one]; exact v5.ext e6, by rw [h0]; exact o6⟩ ?_
  rintro ⟨s, i⟩ w7 again ⟨k, hi, hk, E7, vg, vg2, o7⟩ hag
  dsimp only at hi o7 ⊢
  subst hi
  refine ldSh_i vg ?_
  refine rCounts_s o fun c w8 e8 o8 => ?_
  have hcl : c.len = X.x.h + 1 := by have := o8.len; simp [S.Shp.cs_len] at this; omega
  have hsl : s.len = k + 1 := by have := rd_plcs o7.rd; rw [plTo_len] at this; exact this
  refine cond_i (fun hlt => ?_) (fun hge => ?_)
  · have hlt : k < X.x.h := by have : ((k + 1 : Nat) : Int) < (c.len : Int) := of_decide_eq_true hlt
                               omega
    refine ldSh_i (vg.ext e8) ?_
    refine ldV_i (n := 2) (ls := [.int .i64, .int .i64]) 0 (vg2.ext e8) (Nat.le_refl 2) ?_
    have hpn := path_in o hn k
    have hcmk := S.Shp.c_max o k
    refine rAbove_s (i := n / X.x.aN ^ k) (l := k) o (by omega) (by omega) fun w9 e9 => ?_
    have e79 := e8.trans e9
    refine stV_i (n := 2) (vs := plC (n / X.x.aN ^ k / X.x.aN) (k + 1)) 0 (vg2.ext e79) rfl (Nat.le_refl 2) plC_one fun w10 f10 v10 => ?_
    have v10 : Var w10 g2 (plC (n / X.x.aN ^ k / X.x.aN) (k + 1)) := v10
    have hs5 : g2 < w5.heap.size := v5.lt
    have hsg2 : ∀ j, s.inB j → j ≠ g2 := fun j hj => by have := (o7.inB hj).1; omega
    have o10 := (o7.ext e79).fr f10 fun a ha => hsg2 _ ⟨a, ha, rfl⟩
    have vg10 := (vg.ext e79).fr f10 hne
    have E10 : Ext w w10 := Fr.own1 (E7.trans e79) f10 hg2w
    refine ldV_i (n := 2) (ls := [.int .i64, .int .i64]) 0 v10 (Nat.le_refl 2) ?_
    refine buildSlice_i (plC (n / X.x.aN ^ k / X.x.aN) (k + 1)).toArray (by kernel_rfl) rfl (by omega) fun t w11 e11 o11 htl => ?_
    have hB : w5.heap.size ≤ w11.heap.size := by
      have := e6.size
      have h7 : w5.heap.size ≤ w7.heap.size := by
        obtain ⟨a, ha⟩ := o7.rd.some (by omega)
        have := o7.inB ⟨a, ha, rfl⟩; omega
      have := e79.size; have := f10.size; have := e11.size; omega
    refine append_i (o10.ext e11) o11.rd plC_one (by omega) hB fun s2 w12 f12 o12 hl12 hin12 => ?_
    have f12' : ∀ j, s.inB j → w5.heap.size ≤ j := fun j hj => (o7.inB hj).1
    have hw : IntKind.wrap .i64 (((k + 1 : Nat) : Int) + 1) = ((k + 1 + 1 : Nat) : Int) := wrap_nat (n := k + 1 + 1) (by omega)
    rw [hw]
    have hg5 : g < w5.heap.size := v35.lt
    refine hag _ w12 ⟨k + 1, rfl, by omega, Ext.own (E10.trans e11) f12 fun j hj => by have := f12' j hj; omega, (vg10.ext e11).fr f12 fun hj => by have := f12' _ hj; omega, ?_, ?_⟩ ?_
    · rw [div_pow_succ]
      exact (v10.ext e11).fr f12 fun hj => by have := f12' _ hj; omega
    · dsimp only
      rw [plTo_succ, plcs_snoc]
      show Own w12 w5.heap.size s2 2 (plcs (plTo X.x n k) ++ plC (n / X.x.aN ^ (k + 1)) (k + 1))
      rw [div_pow_succ]; exact o12
    · dsimp only; omega
  · have hge : k = X.x.h := by have : ¬ ((k + 1 : Nat) : Int) < (c.len : Int) := of_decide_eq_false hge
                               omega
    subst hge
    exact hK s w8 (E7.trans e8) ((o7.ext e8).base s5)
set_option maxHeartbeats 1000000 in
theorem rfetch_s {p : Pl} {K : Sl → Int → World → Prop} (h : RAt w X M) (hT : PtRd w T) (hx : XOk X) (h1 : p.2 ≤ X.x.h) (h2 : p.1 < X.x.c p.2)
    (hK : ∀ v w', Ext w w' → OwnB w' w.heap.size v (S.vfetch X.x X.d.off T.b (S.bfn T.bads) p).1 → K v (S.vfetch X.x X.d.off T.b (S.bfn T.bads) p).2 w') :
    callS Tryz.prog 39 #[.pointer (some (at_ X.gr 0)), .slice T.l.a T.l.len T.l.cap, .agg #[.int .i64 (p.1 : Int), .int .i64 (p.2 : Int)]] [.one .slc, .one (.int .i64)] K w := by
  refine f39_ok ?_
  unfold f39
  have o : X.x.Ok := hx.q.x
  have hh := S.Shp.h_le o
  have hcm := S.Shp.c_max o p.2
  have hb2 := o.b2
  have hb1 := o.b1
  have hoff := hx.off
  have hxs : X.x.s = (X.x.sN : Int) := o.s
  have hxb : X.x.b = (X.x.bN : Int) := o.b
  refine box_i fun g w1 e1 hg v1 => ?_
  have v1 : Var w1 g (plC p.1 p.2) := v1
  refine rShape_s (h.ext e1) fun w2 e2 => ?_
  refine alloc_i fun g2 w3 e3 hg2 v3 => ?_
  refine stSh_i (x := X.x) v3 rfl fun w4 f4 v4 => ?_
  have s1 := e1.size
  have s2 := e2.size
  have E4 : Ext w1 w4 := Fr.own1 (e2.trans e3) f4 (by omega)
  have E := e1.trans E4
  have vp := v1.ext E4
  have h4 := h.ext E
  have hT4 := hT.ext E
  unfold S.vfetch at hK
  refine ld1_i (l := .int .i64) (o := 1) (p.2 : Int) vp rfl ?_
  refine cond_i (fun hl => ?_) (fun hl => ?_)
  · have hl1 : 1 ≤ p.2 := by have : (p.2 : Int) > 0 := of_decide_eq_true hl
                             omega
    rw [if_pos hl1] at hK
    have hd := Ext.drew w4
    refine ⟨fun y => Ext w4 y, hd, ?_⟩
    refine nil_i rfl ?_
    refine ld1Q_i (l := .str) (o := 0) (str pn) (fun y hy => h4.var.ext hy) rfl ?_
    refine nil_i rfl ?_
    refine ld1Q_i (l := .int .i64) (o := 5) X.d.off (fun y hy => h4.var.ext hy) rfl ?_
    refine ldShQ_i (x := X.x) (fun y hy => v4.ext hy) ?_
    refine ldVQ_i (n := 2) (ls := [.int .i64, .int .i64]) 0 (fun y hy => vp.ext hy) (Nat.le_refl 2) ?_
    refine ld1Q_i (l := .int .i64) (o := 1) X.x.b (fun y hy => v4.ext hy) rfl ?_
    refine rOffset_s (i := p.1) (l := p.2) o h2 h1 fun w5 e5 => ?_
    refine more_i (hd.trans e5) ?_
    have hsum := S.Shp.sumA_le o p.2
    have hm := Nat.mul_le_mul (show p.1 + X.x.sumA p.2 ≤ 618475290624 by omega) hb2
    obtain ⟨od, hod⟩ : ∃ od : Nat, X.d.off = od := ⟨X.d.off.toNat, by omega⟩
    rw [hod, ← Int.natCast_add, wrap_nat (by omega), hxb]
    rw [hod, ← Int.natCast_add] at hK
    have E5 := E.trans (hd.trans e5)
    refine rPread_s (off := od + (p.1 + X.x.sumA p.2) * X.x.bN) (n := X.x.bN) (hT.ext E5) rfl (by omega) hb2 fun v w6 e6 hv => ?_
    have hvl := Bts.len hv
    have hbl : (S.pread T.b (S.bfn T.bads) ((od + (p.1 + X.x.sumA p.2) * X.x.bN : Nat) : Int) (X.x.bN : Int)).1.length ≤ 4096 := by
      by_cases he : (S.pread T.b (S.bfn T.bads) ((od + (p.1 + X.x.sumA p.2) * X.x.bN : Nat) : Int) (X.x.bN : Int)).2 = 0
      · have := (S.pread_len he).1; omega
      · rw [S.pread_err he]; simp
    refine copyV_i hv bytes_one (by omega) fun v2 w7 e7 o7 => ?_
    have E67 := (E5.trans e6).trans e7
    exact hK v2 w7 E67 (o7.base ((E5.trans e6).size))
  · have hl0 : ¬ 1 ≤ p.2 := by have : ¬ (p.2 : Int) > 0 := of_decide_eq_false hl
                               omega
    have hp0 : p.2 = 0 := by omega
    rw [if_neg hl0] at hK
    rw [hp0] at h2
    have hs2 := o.s2
    have hfrom : p.1 * X.x.bN < X.x.sN := (S.up_iff (by omega) o.s1).1 (show p.1 < S.up X.x.sN X.x.bN from h2)
    refine ld1_i (l := .int .i64) (o := 0) X.x.s v4 rfl ?_
    refine ld1_i (l := .int .i64) (o := 0) (p.1 : Int) vp rfl ?_
    refine ld1_i (l := .int .i64) (o := 1) X.x.b v4 rfl ?_
    have e1' : IntKind.wrap .i64 ((p.1 : Int) * X.x.b) = ((p.1 * X.x.bN : Nat) : Int) := by rw [hxb, ← Int.natCast_mul]; exact wrap_nat (by omega)
    have e2' : IntKind.wrap .i64 (X.x.s - ((p.1 * X.x.bN : Nat) : Int)) = ((X.x.sN - p.1 * X.x.bN : Nat) : Int) := by rw [hxs, show (X.x.sN : Int) - ((p.1 * X.x.bN : Nat) : Int) = ((X.x.sN - p.1 * X.x.bN : Nat) : Int) by omega]; exact wrap_nat (by omega)
    rw [e1', e2']
    refine join_i (fun (x : Int) w' => w' = w4 ∧ x = ((min X.x.bN (X.x.sN - p.1 * X.x.bN) : Nat) : Int)) ?_ fun J hJ => ?_
    rotate_left
    · refine ld1_i (l := .int .i64) (o := 1) X.x.b v4 rfl ?_
      refine cond_i (fun hgt => ?_) (fun hle => ?_)
      · have hgt : ((X.x.sN - p.1 * X.x.bN : Nat) : Int) > X.x.b := of_decide_eq_true hgt
        refine ld1_i (l := .int .i64) (o := 1) X.x.b v4 rfl ?_
        exact hJ _ _ ⟨rfl, by omega⟩
      · have hle : ¬ ((X.x.sN - p.1 * X.x.bN : Nat) : Int) > X.x.b := of_decide_eq_false hle
        exact hJ _ _ ⟨rfl, by omega⟩
    rintro x w' ⟨rfl, rfl⟩
    have hd := Ext.drew w'
    refine ⟨fun y => Ext w' y, hd, ?_⟩
    refine nil_i rfl ?_
    refine ld1Q_i (l := .str) (o := 0) (str pn) (fun y hy => h4.var.ext hy) rfl ?_
    refine ld1Q_i (l := .int .i64) (o := 0) (p.1 : Int) (fun y hy => vp.ext hy) rfl ?_
    refine ld1Q_i (l := .int .i64) (o := 1) X.x.b (fun y hy => v4.ext hy) rfl ?_
    rw [e1']
    refine rPread_s (off := p.1 * X.x.bN) (n := min X.x.bN (X.x.sN - p.1 * X.x.bN)) (hT4.ext hd) rfl (by omega) (by omega) fun v w6 e6 hv => ?_
    have E6 := E.trans (hd.trans e6)
    refine cond_i (fun he => ?_) (fun he => ?_)
    · have he' : (S.pread T.b (S.bfn T.bads) ((p.1 * X.x.bN : Nat) : Int) ((min X.x.bN (X.x.sN - p.1 * X.x.bN) : Nat) : Int)).2 ≠ 0 := bne_iff_ne.1 he
      rw [if_neg he'] at hK
      exact hK Sl.nil w6 E6 (Own.nilSl _ _ _)
    · have he' : (S.pread T.b (S.bfn T.bads) ((p.1 * X.x.bN : Nat) : Int) ((min X.x.bN (X.x.sN - p.1 * X.x.bN) : Nat) : Int)).2 = 0 := bne_eq_false_iff_eq.1 he
      rw [if_pos he'] at hK
      have hpl := (S.pread_len he').1
      generalize (S.pread T.b (S.bfn T.bads) ((p.1 * X.x.bN : Nat) : Int) ((min X.x.bN (X.x.sN - p.1 * X.x.bN) : Nat) : Int)).1 = bs at hK hv hpl
      have hvl := Bts.len hv
      have hle : bs.length ≤ X.x.bN := by omega
      refine ld1_i (l := .int .i64) (o := 1) X.x.b ((v4.ext hd).ext e6) rfl ?_
      rw [hxb]
      refine makeB_i (by omega) (by omega) fun s w7 e7 o7 => ?_
      rw [Int.toNat_natCast] at o7
      refine loop_i (fun (x : Int) w' => ∃ k : Nat, x = k ∧ k ≤ bs.length ∧ Ext w6 w' ∧ OwnB w' w6.heap.size s (bs.take k ++ List.replicate (X.x.bN - k) 0)) (fun x _ => bs.length - x.toNat) ⟨0, rfl, Nat.zero_le _, e7, by simpa using o7⟩ ?_
      rintro _ w8 again ⟨k, rfl, hk, e8, o8⟩ hag
      refine cond_i (fun hlt => ?_) (fun hge => ?_)
      · have hlt : k < bs.length := by have : (k : Int) < (v.len : Int) := of_decide_eq_true hlt
                                       omega
        refine elem_i (l := .int .u8) (x := ((bs[k]'hlt).toNat : Int)) (hv.ext e8) (by omega) (by omega) (by rw [Int.toNat_natCast]; exact bytes_get hlt) ?_
        have hsl := OwnB.len o8
        rw [List.length_append, List.length_take, List.length_replicate] at hsl
        refine put1_i (bs[k]'hlt) o8 (by omega) (by omega) rfl fun w9 f9 o9 => ?_
        rw [Int.toNat_natCast] at o9
        have hset : (bs.take k ++ List.replicate (X.x.bN - k) 0).set k (bs[k]'hlt) = bs.take (k + 1) ++ List.replicate (X.x.bN - (k + 1)) 0 := by
          obtain ⟨r, hr⟩ : ∃ r, X.x.bN - k = r + 1 := ⟨X.x.bN - k - 1, by omega⟩
          rw [hr, show X.x.bN - (k + 1) = r by omega, List.take_succ_eq_append_getElem hlt, List.replicate_succ, List.append_assoc]
          rw [List.set_append_right _ _ (by rw [List.length_take]; omega), List.length_take, show k - min k bs.length = 0 by omega]
          rfl
        rw [hset] at o9
        have hw : IntKind.wrap .i64 ((k : Int) + 1) = ((k + 1 : Nat) : Int) := wrap_nat (n := k + 1) (by omega)
        rw [hw]
        exact hag _ w9 ⟨k + 1, rfl, by omega, Ext.own e8 f9 fun i hi => (o8.inB hi).1, o9⟩ (by omega)
      · have hge : k = bs.length := by have : ¬ (k : Int) < (v.len : Int) := of_decide_eq_false hge
                                       omega
        subst hge
        rw [List.take_length] at o8
        exact hK s w8 (E6.trans e8) (Own.base o8 E6.size)
theorem rholds_s {n k : Nat} {p1 p2 : Sl} {xs : List (Sl × List UInt8)} {K : Bool → World → Prop} (h : RAt w X M) (hx : XOk X) (hn : n < X.x.c 0) (hk : k ≤ X.x.h) (hp : Rd w p1 2 (plcs (plTo X.x n X.x.h))) (hb : Parts w p2 xs) (hxl : xs.length = X.x.h + 1) (hl : ∀ x ∈ xs, x.2.length = X.x.bN)
    (hK : ∀ w', Ext w w' → K (vhold X.q n (fun j => (xs.map (·.2)).getD j []) k) w') :
    callS Tryz.prog 40 #[.pointer (some (at_ X.gr 0)), .slice p1.a p1.len p1.cap, .slice p2.a p2.len p2.cap, .int .i64 (k : Int)] [.one .bool] K w := by
  refine f40_ok ?_
  unfold f40
  have o : X.x.Ok := hx.q.x
  have hh := S.Shp.h_le o
  have hb2 := o.b2
  have hdd := o.dd
  have hdl : X.d.dig.2.length = X.x.dN := hx.q.dig
  have hsl : X.d.salt.2.length ≤ 64 := hx.q.salt
  have hpl : p1.len = X.x.h + 1 := by have := rd_plcs hp; rw [plTo_len] at this; exact this
  have hbl := hb.len
  have hkx : k < xs.length := by omega
  have hgD : ∀ j (hj : j < xs.length), (xs.map (·.2)).getD j [] = (xs[j]'hj).2 := fun j hj => by simp [List.getD_eq_getElem?_getD, hj]
  have hd := Ext.drew w
  refine ⟨fun y => Ext w y, hd, ?_⟩
  refine nil_i rfl ?_
  refine ld1Q_i (l := .int .i64) (o := 2) X.d.alg (fun y hy => h.var.ext hy) rfl ?_
  refine nil_i rfl ?_
  refine ld1Q_i (l := .slc) (o := 8) X.d.salt.1 (fun y hy => h.var.ext hy) rfl ?_
  obtain ⟨ab, hab⟩ := hb.rd.some (by omega)
  refine elemQ_i (l := .slc) (x := (xs[k]'hkx).1) hab (fun y hy => hb.rd.ext hy) (by omega) (by omega) (by rw [Int.toNat_natCast]; exact part_get hb hkx) ?_
  have g0 := hgD k hkx
  have m0 := List.getElem_mem hkx
  have hge0 : xs[k]? = some (xs[k]'hkx) := List.getElem?_eq_getElem hkx
  generalize xs[k]'hkx = u at g0 m0
  have hul := hl u m0
  refine rdig_s (salt := X.d.salt.2) (xs := u.2) (h.salt.ext hd) ((hb.each u m0).ext hd) hx.q.a (by omega) fun r w1 e1 o1 => ?_
  have E1 := hd.trans e1
  have hlenD : (S.dg X.d.alg X.d.salt.2 u.2).length = X.x.dN := hx.q.len u.2
  have hrl := OwnB.len o1
  have hwl : IntKind.wrap .i64 ((p1.len : Int) - 1) = ((X.x.h : Nat) : Int) := by rw [hpl, show ((X.x.h + 1 : Nat) : Int) - 1 = ((X.x.h : Nat) : Int) by omega]; exact wrap_nat (by omega)
  rw [hwl]
  have hv := vhold_iff (n := n) hx.q (B := fun j => (xs.map (·.2)).getD j []) (k := k) hk fun hlt => by
    have hk1 : k + 1 < xs.length := by have : k < X.x.h := hlt; omega
    show ((xs.map (·.2)).getD (k + 1) []).length = _
    rw [hgD _ hk1]; exact hl _ (List.getElem_mem hk1)
  refine cond_i (fun hc => ?_) (fun hc => ?_)
  · have hkh : k = X.x.h := by have : (k : Int) = ((X.x.h : Nat) : Int) := by simpa using hc
                               omega
    have hd1 := Ext.drew w1
    have h1 := h.ext E1
    refine ⟨fun y => Ext w1 y, hd1, ?_⟩
    refine b2sQ_i (fun y hy => (Own.ext o1 hy).rd) ?_
    refine nil_i rfl ?_
    refine ld1Q_i (l := .slc) (o := 9) X.d.dig.1 (fun y hy => h1.var.ext hy) rfl ?_
    refine b2sQ_i (fun y hy => (h1.dig.ext hy)) ?_
    rw [str_toList, str_toList]
    have := hK _ (E1.trans hd1)
    have heq : (S.dg X.d.alg X.d.salt.2 u.2 == X.d.dig.2) = vhold X.q n (fun j => (xs.map (·.2)).getD j []) k := by
      rw [Bool.eq_iff_iff, hv, if_pos (show k = X.q.x.h from hkh), beq_iff_eq]
      simp only [g0]
      exact Iff.rfl
    rw [heq]; exact this
  · have hkh : k < X.x.h := by
      have : ¬ (k : Int) = ((X.x.h : Nat) : Int) := by simpa using hc
      omega
    have hk1 : k + 1 < xs.length := by omega
    have hd1 := Ext.drew w1
    have h1 := h.ext E1
    have hp1 := hp.ext E1
    have hpn := path_in o hn k
    have hcmk := S.Shp.c_max o k
    have g1 := hgD (k + 1) hk1
    have m1 := List.getElem_mem hk1
    have hpg := part_get hb hk1
    generalize hy1 : xs[k + 1]'hk1 = v at g1 m1 hpg
    have hvl := hl v m1
    have hoa : offAt X.x n k + X.x.dN ≤ X.x.bN := offAt_le hx.q n k
    have heq : (S.dg X.d.alg X.d.salt.2 u.2 == (v.2.drop (offAt X.x n k)).take X.x.dN) = vhold X.q n (fun j => (xs.map (·.2)).getD j []) k := by
      have hne : ¬ k = X.q.x.h := by show ¬ k = X.x.h; omega
      rw [Bool.eq_iff_iff, hv, if_neg hne, beq_iff_eq]
      simp only [g0, g1]
      exact eq_comm
    have fin : ∀ w2, Ext w1 w2 → f40_t1 r p2 (k : Int) ((n / X.x.aN ^ k % X.x.aN * X.x.dN : Nat) : Int) K w2 := fun w2 e2 => by
      unfold f40_t1
      have hd2 := Ext.drew w2
      have hb2' := hb.ext (E1.trans e2)
      refine ⟨fun y => Ext w2 y, hd2, ?_⟩
      refine b2sQ_i (fun y hy => (Own.ext o1 (e2.trans hy)).rd) ?_
      have hw1 : IntKind.wrap .i64 ((k : Int) + 1) = ((k + 1 : Nat) : Int) := wrap_nat (n := k + 1) (by omega)
      rw [hw1]
      refine elemQ_i (l := .slc) (x := v.1) hab (fun y hy => hb2'.rd.ext hy) (by omega) (by omega) (by rw [Int.toNat_natCast]; exact hpg) ?_
      have hbv := hb2'.each v m1
      have hvl2 := Bts.len hbv
      have hcap := hbv.cap
      rw [show ((n / X.x.aN ^ k % X.x.aN * X.x.dN : Nat) : Int) = (offAt X.x n k : Int) from rfl]
      have hw2 : IntKind.wrap .i64 ((offAt X.x n k : Int) + (r.len : Int)) = ((offAt X.x n k + X.x.dN : Nat) : Int) := by rw [hrl, hlenD, ← Int.natCast_add]; exact wrap_nat (by omega)
      rw [hw2]
      refine sl2Q_i (by omega) (by omega) (by omega) ?_
      have hcut := Bts.cut hbv (l := offAt X.x n k) (hi := offAt X.x n k + X.x.dN) (by omega) (by omega)
      rw [show offAt X.x n k + X.x.dN - offAt X.x n k = X.x.dN by omega] at hcut
      simp only [Int.toNat_natCast]
      refine b2sQ_i (fun y hy => hcut.ext hy) ?_
      rw [str_toList, str_toList, heq]
      exact hK _ ((E1.trans e2).trans hd2)
    refine ⟨fun y => Ext w1 y, hd1, ?_⟩
    obtain ⟨ap, hap⟩ := hp1.some (by omega)
    refine ldPQ_i (l := plTo X.x n X.x.h) (p := X.x.pl n k) hap (fun y hy => hp1.ext hy) (rd_plcs hp1) (by omega) (by rw [Int.toNat_natCast]; exact plTo_get hk) ?_
    have st : ∀ {g : Nat} {w5 : World} {cs : List Value}, Ext w1 w5 → w1.heap.size ≤ g → Var w5 g cs → cs.length = 2 → semU Tryz.prog (Instr.storeAt 68 (.pointer (some (at_ g 0))) (.agg #[.int .i64 ((n / X.x.aN ^ k / X.x.aN : Nat) : Int), .int .i64 ((k + 1 : Nat) : Int)])) (fun w => f40_t1 r p2 (k : Int) ((n / X.x.aN ^ k % X.x.aN * X.x.dN : Nat) : Int) K w) w5 := fun {g w5 cs} e5 hg v5 hcl => by
      refine stV_i (n := 2) (vs := plC (n / X.x.aN ^ k / X.x.aN) (k + 1)) 0 v5 rfl (by omega) plC_one fun w6 f6 v6 => ?_
      exact fin w6 (Fr.own1 e5 f6 hg)
    refine ⟨?_, ?_⟩
    · refine rShape_s (h1.ext hd1) fun w2 e2 => ?_
      have e12 := hd1.trans e2
      refine more_i e12 ?_
      refine ⟨?_, ?_⟩
      · refine rAbove_s (i := n / X.x.aN ^ k) (l := k) o (by omega) (by omega) fun w3 e3 => ?_
        refine alloc_i fun g w4 e4 hg v4 => ?_
        have e14 := (e12.trans e3).trans e4
        refine more_i e14 ?_
        exact st e14 (by have := (e12.trans e3).size; omega) v4 rfl
      · refine alloc_i fun g w4 e4 hg v4 => ?_
        have e14 := e12.trans e4
        refine more_i e14 ?_
        refine rAbove_s (i := n / X.x.aN ^ k) (l := k) o (by omega) (by omega) fun w3 e3 => ?_
        exact st (e14.trans e3) (by have := e12.size; omega) (v4.ext e3) rfl
    · refine alloc_i fun g w4 e4 hg v4 => ?_
      have e14 := hd1.trans e4
      refine more_i e14 ?_
      refine rShape_s (h1.ext e14) fun w2 e2 => ?_
      have e12 := e14.trans e2
      refine more_i e12 ?_
      refine rAbove_s (i := n / X.x.aN ^ k) (l := k) o (by omega) (by omega) fun w3 e3 => ?_
      exact st (e12.trans e3) (by have := hd1.size; omega) ((v4.ext e2).ext e3) rfl
end
end Go.Proofs.YteopoodhclljjaaGreatDoor

/-! Ref17b -/
namespace Go.Proofs.YteopoodhclljjaaGreatDoor
open Go Go.Eng
open Go.S (Pl Kn Vq Vr klook vfirst vblk vput)
section
variable {w w' : World} {X : VX} {M : RM} {T : PT}
theorem PtRd.fr {S : Nat → Prop} (h : PtRd w T) (hf : Fr S w w') (hs : ∀ k, (T.l.inB k ∨ T.ds.inB k ∨ T.bs.inB k) → ¬ S k) : PtRd w' T :=
  ⟨h.list.fr hf fun a ha => hs _ (.inl ⟨a, ha, rfl⟩), h.data.fr hf fun a ha => hs _ (.inr (.inl ⟨a, ha, rfl⟩)), h.bad.fr hf fun a ha => hs _ (.inr (.inr ⟨a, ha, rfl⟩)), h.size, h.le⟩
theorem vhold_congr {q : Vq} {n k : Nat} {B B' : Nat → List UInt8} (hk : k ≤ q.x.h) (h : ∀ j, j ≤ q.x.h → B j = B' j) : vhold q n B k = vhold q n B' k := by
  unfold vhold
  rw [h k hk]
  by_cases he : k = q.x.h
  · simp only [if_pos he]
  · simp only [if_neg he]
    rw [h (k + 1) (by omega)]
theorem RAt.upVar {M' : RM} (h : RAt w X M) (hf : Fr (fun k => k = X.gr) w w') (hv : Var w' X.gr (rCells X M')) (h1 : M'.kn = M.kn) (h2 : M'.bl = M.bl) (h3 : M'.kl = M.kl) (ht : Rd w M'.tr 1 (M'.trc.map fun x => slV x.1)) (htc : ∀ x ∈ M'.trc, Bts w x.1 x.2 ∧ x.2.length ≤ 4096)
    (hsep : ∀ k, (M'.tr.inB k ∨ ∃ x ∈ M'.trc, x.1.inB k) → ¬ M.mut X k ∧ k < w.heap.size) : RAt w' X M' := by
  obtain ⟨kn', bl', tr', kl', trc', br'⟩ := M'
  simp only at h1 h2 h3
  subst h1; subst h2; subst h3
  have hm : ∀ k, M.imm X k → k ≠ X.gr := fun k hk e => (h.sep k hk).1 (.inl e)
  have hi : ∀ {s : Sl}, (∀ k, s.inB k → M.imm X k) → ∀ a, s.a = some a → ¬ a.block = X.gr := fun h1 a ha => hm _ (h1 _ ⟨a, ha, rfl⟩)
  have hn : ∀ k, (tr'.inB k ∨ ∃ x ∈ trc', x.1.inB k) → k ≠ X.gr := fun k hk e => (hsep k hk).1 (.inl e)
  refine ⟨hv, h.kn.fr hf fun a ha e => h.ne.1 ⟨a, ha, e⟩, h.bl.fr hf fun a ha e => h.ne.2.1 ⟨a, ha, e⟩, fun e he => ⟨(h.each e he).1.fr hf (hi fun k hk => .inr (.inr (.inl ⟨e, he, hk⟩))), (h.each e he).2⟩,
    ht.fr hf fun a ha => hn _ (.inl ⟨a, ha, rfl⟩), fun x hx => ⟨(htc x hx).1.fr hf fun a ha => hn _ (.inr ⟨x, hx, a, ha, rfl⟩), (htc x hx).2⟩, rd_fr_ne h.salt hf fun hne a ha => hm _ (.inr (.inr (.inr (.inl ⟨by simpa using hne, a, ha, rfl⟩)))), rd_fr_ne h.dig hf fun hne a ha => hm _ (.inr (.inr (.inr (.inr ⟨by simpa using hne, a, ha, rfl⟩)))), fun k hk => ?_, h.ne⟩
  have : ¬ M.mut X k ∧ k < w.heap.size := by
    rcases hk with hk | hk | hk
    · exact hsep k (.inl hk)
    · exact hsep k (.inr hk)
    · exact h.sep k (.inr (.inr hk))
  exact ⟨this.1, Nat.lt_of_lt_of_le this.2 hf.size⟩
theorem RAt.put {p : Pl} {s kn' bl' : Sl} {bs : List UInt8} (h : RAt w X M) (F : Fr (M.mut X) w w') (v : Var w' X.gr (((rCells X M).set 13 (slV kn')).set 14 (slV bl'))) (okn : Own w' 0 kn' 2 (plcs M.pls ++ plC p.1 p.2)) (obl : Own w' 0 bl' 1 ((M.kl.map fun e => slV e.s) ++ [slV s]))
    (hk1 : ∀ j, kn'.inB j → M.kn.inB j ∨ w.heap.size ≤ j) (hb1 : ∀ j, bl'.inB j → M.bl.inB j ∨ w.heap.size ≤ j) (hkb : ∀ j, kn'.inB j → ¬ bl'.inB j) (hs : Bts w s bs) (hl : bs.length ≤ 4096) (hsI : ∀ j, s.inB j → ¬ M.mut X j ∧ j < w.heap.size) :
    RAt w' X { M with kn := kn', bl := bl', kl := M.kl ++ [⟨p, s, bs⟩] } := by
  have hi : ∀ {t : Sl}, (∀ k, t.inB k → M.imm X k) → ∀ a, t.a = some a → ¬ M.mut X a.block := fun h1 a ha => (h.sep _ (h1 _ ⟨a, ha, rfl⟩)).1
  have hgr := h.var.lt
  refine ⟨v, ?_, by rw [List.map_append]; exact obl, fun e he => ?_, h.tr.fr F (hi fun k hk => .inl hk), fun x hx => ⟨(h.trc x hx).1.fr F (hi fun k hk => .inr (.inl ⟨x, hx, hk⟩)), (h.trc x hx).2⟩, rd_fr_ne h.salt F fun hne a ha => (h.sep _ (.inr (.inr (.inr (.inl ⟨by simpa using hne, a, ha, rfl⟩))))).1, rd_fr_ne h.dig F fun hne a ha => (h.sep _ (.inr (.inr (.inr (.inr ⟨by simpa using hne, a, ha, rfl⟩))))).1, fun k hk => ?_, fun hk => ?_, fun hk => ?_, hkb⟩
  · show Own w' 0 kn' 2 (plcs ((M.kl ++ [(⟨p, s, bs⟩ : KE)]).map fun e : KE => e.p))
    rw [List.map_append]
    show Own w' 0 kn' 2 (plcs (M.pls ++ [p]))
    rw [plcs_snoc]; exact okn
  · rcases List.mem_append.1 he with he | he
    · exact ⟨(h.each e he).1.fr F (hi fun k hk => .inr (.inr (.inl ⟨e, he, hk⟩))), (h.each e he).2⟩
    · simp at he; subst he
      exact ⟨hs.fr F fun a ha => (hsI _ ⟨a, ha, rfl⟩).1, hl⟩
  · have h1 : ¬ M.mut X k ∧ k < w.heap.size := by
      rcases hk with hk | hk | ⟨e, he, hk⟩ | hk | hk
      · exact h.sep k (.inl hk)
      · exact h.sep k (.inr (.inl hk))
      · rcases List.mem_append.1 he with he | he
        · exact h.sep k (.inr (.inr (.inl ⟨e, he, hk⟩)))
        · simp at he; subst he; exact hsI k hk
      · exact h.sep k (.inr (.inr (.inr (.inl hk))))
      · exact h.sep k (.inr (.inr (.inr (.inr hk))))
    refine ⟨fun hm => ?_, Nat.lt_of_lt_of_le h1.2 F.size⟩
    rcases hm with hm | hm | hm
    · exact h1.1 (.inl hm)
    · rcases hk1 k hm with h2 | h2
      · exact h1.1 (.inr (.inl h2))
      · omega
    · rcases hb1 k hm with h2 | h2
      · exact h1.1 (.inr (.inr h2))
      · omega
  · rcases hk1 _ hk with h2 | h2
    · exact h.ne.1 h2
    · omega
  · rcases hb1 _ hk with h2 | h2
    · exact h.ne.2.1 h2
    · omega
set_option maxHeartbeats 2000000 in
theorem rfRead_s {i : Int} {K : Sl → Int → World → Prop} (h : RAt w X M) (hT : PtRd w T) (hTs : ∀ k, M.mut X k → ¬ (T.l.inB k ∨ T.ds.inB k ∨ T.bs.inB k)) (hx : XOk X) (hv : VOk X.q (knP M.kl)) (hi : S.I64 i)
    (hK : ∀ (v : Sl) w' M', Fr (M.mut X) w w' → RAt w' X M' → M'.pure = (vread (X.F T.b (S.bfn T.bads)) X.q M.pure i).2.2 → (∀ k, M'.mut X k ∨ M'.imm X k → M.mut X k ∨ M.imm X k ∨ w.heap.size ≤ k) → (∀ k, M'.mut X k → M.mut X k ∨ w.heap.size ≤ k) →
      Bts w' v (vread (X.F T.b (S.bfn T.bads)) X.q M.pure i).1 → (∀ k, v.inB k → M'.imm X k) → K v (vread (X.F T.b (S.bfn T.bads)) X.q M.pure i).2.1 w') :
    callS Tryz.prog 15 #[.pointer (some (at_ X.gr 0)), .slice T.l.a T.l.len T.l.cap, .int .i64 i] [.one .slc, .one (.int .i64)] K w := by
  refine f15_ok ?_
  unfold f15
  have o : X.x.Ok := hx.q.x
  have hh := S.Shp.h_le o
  have hb1 := o.b1
  have hb2 := o.b2
  have hgr := h.var.lt
  -- the trace is nothing
  refine nil_i rfl ?_
  refine st1_i (o := 16) h.var (by simp [rCells]) rfl fun w1 f1 v1 => ?_
  have f1 : Fr (fun k => k = X.gr) w w1 := f1
  obtain ⟨M0, hM0⟩ : ∃ M0 : RM, M0 = { M with tr := Sl.nil, trc := [] } := ⟨_, rfl⟩
  have h0 : RAt w1 X M0 := by
    subst hM0
    exact h.upVar f1 v1 rfl rfl rfl (Rd.nilSl _ _) (fun x hx => by cases hx) fun k hk => by
      rcases hk with ⟨a, ha, _⟩ | ⟨x, hx, _⟩
      · cases ha
      · cases hx
  have hm0 : ∀ k, M0.mut X k ↔ M.mut X k := fun k => by subst hM0; exact Iff.rfl
  have hi0 : ∀ k, M0.imm X k → M.imm X k := fun k hk => by
    subst hM0
    rcases hk with ⟨a, ha, _⟩ | ⟨x, hx, _⟩ | hk
    · cases ha
    · cases hx
    · exact .inr (.inr hk)
  have hkl0 : M0.kl = M.kl := by rw [hM0]
  have hbr0 : M0.broken = M.broken := by rw [hM0]
  have hp0 : M0.pure = ⟨M.broken, knP M.kl, []⟩ := by rw [hM0]; rfl
  have F1 : Fr (M.mut X) w w1 := f1.mono fun k _ hk => .inl hk
  have hT1 : PtRd w1 T := hT.fr F1 fun k hk hm => hTs k hm hk
  have hall0 : ∀ k, M0.mut X k ∨ M0.imm X k → M.mut X k ∨ M.imm X k ∨ w.heap.size ≤ k := fun k hk => hk.elim (fun hk => .inl ((hm0 k).1 hk)) fun hk => .inr (.inl (hi0 k hk))
  have hnilB : ∀ {Q : Nat → Prop} (k : Nat), Sl.nil.inB k → Q k := fun k hk => by obtain ⟨a, ha, _⟩ := hk; cases ha
  have hMp : M.pure = ⟨M.broken, knP M.kl, M.trc.map (·.2)⟩ := rfl
  have hs1 := f1.size
  rw [hMp] at hK
  unfold vread at hK
  simp only at hK
  rw [show X.q.x = X.x from rfl] at hK
  refine nil_i rfl ?_
  refine ld1_i (l := .bool) (o := 15) M0.broken h0.var rfl ?_
  rw [hbr0]
  refine cond_i (fun hb => ?_) (fun hb => ?_)
  · rw [if_pos hb] at hK
    refine hK Sl.nil w1 M0 F1 h0 ?_ hall0 (fun k hk => .inl ((hm0 k).1 hk)) (Rd.nilSl _ _) (hnilB (Q := fun k => M0.imm X k))
    rw [hp0, hb]
  rw [if_neg (by rw [hb]; simp)] at hK
  have hp0 : M0.pure = ⟨false, knP M.kl, []⟩ := by rw [hp0, hb]
  refine join_i (fun c w2 => Ext w1 w2 ∧ c = !decide (0 ≤ i ∧ i < X.x.c 0)) ?_ fun J hJ => ?_
  rotate_left
  · refine cond_i (fun hlt => ?_) (fun hge => ?_)
    · have : i < 0 := of_decide_eq_true hlt
      exact hJ _ _ ⟨Fr.refl _ _, by rw [decide_eq_false (fun h => by omega)]; rfl⟩
    · have h0i : ¬ i < 0 := of_decide_eq_false hge
      refine rShape_s h0 fun w2 e2 => ?_
      refine rCounts_s o fun c w3 e3 o3 => ?_
      have hcl : c.len = X.x.h + 1 := by have := o3.len; simp [S.Shp.cs_len] at this; omega
      refine elem_i (l := .int .i64) (x := (X.x.c 0 : Int)) o3.rd (by omega) (by omega) (by rw [show (0 : Int).toNat = 0 from rfl, List.getElem?_map, S.Shp.cs_get (Nat.zero_le _)]; rfl) ?_
      refine hJ _ _ ⟨e2.trans e3, ?_⟩
      rw [← decide_not]
      exact decide_eq_decide.2 (show i ≥ (X.x.c 0 : Int) ↔ ¬ (0 ≤ i ∧ i < X.x.c 0) by omega)
  rintro c w2 ⟨e2, rfl⟩
  refine cond_i (fun hc => ?_) (fun hc => ?_)
  · have hno : ¬ (0 ≤ i ∧ i < X.x.c 0) := fun hh => by rw [decide_eq_true hh] at hc; cases hc
    rw [if_pos hno] at hK
    exact hK Sl.nil w2 M0 (F1.then e2) (h0.ext e2) hp0 hall0 (fun k hk => .inl ((hm0 k).1 hk)) (Rd.nilSl _ _) (hnilB (Q := fun k => M0.imm X k))
  have hin : 0 ≤ i ∧ i < X.x.c 0 := by simpa using hc
  obtain ⟨n, rfl⟩ : ∃ n : Nat, i = n := ⟨i.toNat, by omega⟩
  have hn : n < X.x.c 0 := by omega
  rw [if_neg (fun hc => hc hin), Int.toNat_natCast] at hK
  have h2 := h0.ext e2
  refine rpath_s h2 hx hn fun pv w3 e3 op => ?_
  have E3 := e2.trans e3
  have h3 := h0.ext E3
  have hpl : pv.len = X.x.h + 1 := by have := rd_plcs op.rd; rw [plTo_len] at this; exact this
  have hsz3 : w1.heap.size ≤ w3.heap.size := E3.size
  have op1 := op.base e2.size
  have hfl : vfirst X.q (knP M.kl) n ≤ X.x.h + 1 := S.vfirst_le
  have hf1 : 1 ≤ vfirst X.q (knP M.kl) n := by
    rcases Nat.eq_zero_or_pos (vfirst X.q (knP M.kl) n) with h0 | h0
    · obtain ⟨bb, hbb⟩ := S.vfirst_at (q := X.q) (kn := knP M.kl) (n := n) (by omega)
      have := (hv.lev _ (S.klook_mem hbb)).1
      rw [h0] at this
      exact absurd this (by show ¬ 1 ≤ 0; omega)
    · exact h0
  have hflo : ∀ k, k < vfirst X.q (knP M.kl) n → kfind M.kl (X.x.pl n k) = none := fun k hk => by
    have : klook (knP M.kl) (X.x.pl n k) = none := S.vfirst_lt hk
    rw [kfind_pure] at this
    simpa using this
  have hfhi : ∀ k, vfirst X.q (knP M.kl) n ≤ k → k ≤ X.x.h → ∃ e, kfind M.kl (X.x.pl n k) = some e ∧ e.b = vblk (X.F T.b (S.bfn T.bads)) X.q (knP M.kl) n k := fun k h1 h2 => by
    have : klook (knP M.kl) (X.x.pl n k) = some (vblk (X.F T.b (S.bfn T.bads)) X.q (knP M.kl) n k) := vblk_hi hv h1 h2
    rw [kfind_pure] at this
    obtain ⟨e, h3, h4⟩ := Option.map_eq_some_iff.1 this
    exact ⟨e, h3, h4⟩
  have hblo : ∀ k, k < vfirst X.q (knP M.kl) n → vblk (X.F T.b (S.bfn T.bads)) X.q (knP M.kl) n k = (X.F T.b (S.bfn T.bads) (X.x.pl n k)).1 := fun k hk => vblk_lo hk
  have hhil : ∀ k, vfirst X.q (knP M.kl) n ≤ k → k ≤ X.x.h → (vblk (X.F T.b (S.bfn T.bads)) X.q (knP M.kl) n k).length = X.x.bN := fun k h1 hk => (hv.lev (X.q.x.pl n k, vblk (X.F T.b (S.bfn T.bads)) X.q (knP M.kl) n k) (S.klook_mem (vblk_hi hv h1 hk))).2.2.2
  have hkl64 : M.kl.length ≤ 64 := by have := hv.len; unfold knP at this; rwa [List.length_map] at this
  generalize hBB : vblk (X.F T.b (S.bfn T.bads)) X.q (knP M.kl) n = BB at hK hfhi hblo hhil
  generalize hff : vfirst X.q (knP M.kl) n = f at hK hfl hf1 hflo hfhi hblo hhil
  have hkn0 : ∀ {w4 : World} (_ : Ext w1 w4) {k : Nat} {Q : Int → World → Prop}, k ≤ X.x.h → (k < f → ∀ w', Ext w4 w' → Q (-1) w') → (f ≤ k → ∀ (j : Nat) e, M0.kl[j]? = some e → e.b = BB k → ∀ w', Ext w4 w' → Q (j : Int) w') →
      callS Tryz.prog 38 #[.pointer (some (at_ X.gr 0)), .agg #[.int .i64 ((X.x.pl n k).1 : Int), .int .i64 ((X.x.pl n k).2 : Int)]] [.one (.int .i64)] Q w4 := fun {w4} e4 {k Q} hk hlo hhi => by
    refine rknown_s (h0.ext e4) (by rw [hkl0]; omega) (fun hnn w' e => ?_) fun j e hj hep hfe w' ee => ?_
    · rw [hkl0] at hnn
      rcases Nat.lt_or_ge k f with hlt | hge
      · exact hlo hlt w' e
      · obtain ⟨e', he', _⟩ := hfhi k hge hk
        rw [hnn] at he'; cases he'
    · rcases Nat.lt_or_ge k f with hlt | hge
      · rw [hkl0, hflo k hlt] at hfe; cases hfe
      · obtain ⟨e', he', heb⟩ := hfhi k hge hk
        rw [hkl0, he'] at hfe
        cases hfe
        exact hhi hge j _ hj heb w' ee
  refine loop_i (fun (st : Sl × Int) w4 => ∃ (k : Nat) (xs : List (Sl × List UInt8)), st.2 = k ∧ k ≤ f ∧ Ext w3 w4 ∧ xs.map (·.2) = (List.range k).map BB ∧ Own w4 w3.heap.size st.1 1 (xs.map fun x => slV x.1) ∧ (∀ x ∈ xs, OwnB w4 w3.heap.size x.1 x.2 ∧ ∀ j, x.1.inB j → ¬ st.1.inB j) ∧ ∀ j, j < k → (X.F T.b (S.bfn T.bads) (X.x.pl n j)).2 = 0) (fun st _ => X.x.h + 1 - st.2.toNat)
    ⟨0, [], rfl, Nat.zero_le _, Fr.refl _ _, rfl, Own.nilSl _ _ _, (fun x h => by cases h), fun j hj => by omega⟩ ?_
  rintro ⟨s, si⟩ w4 again ⟨k, xs, hki, hk, e4, ht4, o4, hx4, hz⟩ hag
  dsimp only at hki o4 hx4 ⊢
  subst hki
  have hxl : xs.length = k := by have := congrArg List.length ht4; simpa using this
  have hsl : s.len = k := by have := own_map o4; omega
  have E4 := E3.trans e4
  have hp4 : Rd w4 pv 2 (plcs (plTo X.x n X.x.h)) := op.rd.ext e4
  refine join_i (fun c w5 => Ext w4 w5 ∧ c = decide (k < f)) ?_ fun J hJ => ?_
  rotate_left
  · refine cond_i (fun hlt => ?_) (fun hge => ?_)
    · have hlt : k < X.x.h + 1 := by have : (k : Int) < (pv.len : Int) := of_decide_eq_true hlt
                                     omega
      refine ldP_i (l := plTo X.x n X.x.h) (p := X.x.pl n k) hp4 (by omega) (by rw [Int.toNat_natCast]; exact plTo_get (by omega)) ?_
      refine hkn0 E4 (by omega) (fun hkf w' e => hJ _ _ ⟨e, ?_⟩) fun hkf j e' _ _ w' e => hJ _ _ ⟨e, ?_⟩
      · rw [decide_eq_true hkf]; rfl
      · rw [decide_eq_false (show ¬ k < f by omega)]
        exact decide_eq_false (show ¬ ((j : Int) < 0) by omega)
    · have : ¬ k < X.x.h + 1 := by have : ¬ (k : Int) < (pv.len : Int) := of_decide_eq_false hge
                                   omega
      exact hJ _ _ ⟨Fr.refl _ _, by rw [decide_eq_false (show ¬ k < f by omega)]⟩
  rintro c w5 ⟨e5, rfl⟩
  have e45 := e4.trans e5
  have E5 := E3.trans e45
  have h5 := h0.ext E5
  have hp5 : Rd w5 pv 2 (plcs (plTo X.x n X.x.h)) := op.rd.ext e45
  have o5 := o4.ext e5
  refine cond_i (fun hkf => ?_) (fun hkf => ?_)
  · have hkf : k < f := of_decide_eq_true hkf
    refine ldP_i (l := plTo X.x n X.x.h) (p := X.x.pl n k) hp5 (by omega) (by rw [Int.toNat_natCast]; exact plTo_get (by omega)) ?_
    refine rfetch_s (p := X.x.pl n k) h5 (hT1.ext E5) hx (by show k ≤ X.x.h; omega) (path_in o hn k) fun v w6 e6 o6 => ?_
    refine cond_i (fun he => ?_) (fun he => ?_)
    · have he' : (X.F T.b (S.bfn T.bads) (X.x.pl n k)).2 ≠ 0 := bne_iff_ne.1 he
      have hfind : (List.range f).find? (fun k => decide ((X.F T.b (S.bfn T.bads) (X.x.pl n k)).2 ≠ 0)) = some k := by
        rw [List.find?_range_eq_some]
        exact ⟨by simpa using he', List.mem_range.2 hkf, fun j hj => by rw [hz j hj]; simp⟩
      rw [hfind] at hK
      exact hK Sl.nil w6 M0 (F1.then (E5.trans e6)) (h5.ext e6) hp0 hall0 (fun k hk => .inl ((hm0 k).1 hk)) (Rd.nilSl _ _) (hnilB (Q := fun k => M0.imm X k))
    · have he' : (X.F T.b (S.bfn T.bads) (X.x.pl n k)).2 = 0 := bne_eq_false_iff_eq.1 he
      have e46 := e45.trans e6
      have hsz := e45.size
      have hvs : ∀ j, v.inB j → ¬ s.inB j := fun j hj hs => by have := (o6.inB hj).1; have := (o5.inB hs).2; omega
      refine append1V_i (slV v) rfl rfl (o5.ext e6) (by omega) e46.size fun v3 w7 f7 o7 hin => ?_
      have e47 : Ext w3 w7 := Ext.own e46 f7 fun j hj => (o4.inB hj).1
      have hw : IntKind.wrap .i64 ((k : Int) + 1) = ((k + 1 : Nat) : Int) := wrap_nat (n := k + 1) (by omega)
      rw [hw]
      refine hag _ w7 ⟨k + 1, xs ++ [(v, (X.F T.b (S.bfn T.bads) (X.x.pl n k)).1)], rfl, by omega, e47, ?_, ?_, fun x hxm => ?_, fun j hj => ?_⟩ (by dsimp only; omega)
      · rw [List.map_append, ht4, List.range_succ, List.map_append, List.map_cons, List.map_cons, hblo k hkf]; rfl
      · dsimp only; rw [List.map_append]; exact o7
      · rcases List.mem_append.1 hxm with hxm | hxm
        · obtain ⟨q1, q2⟩ := hx4 x hxm
          have q1' := (q1.ext e5).ext e6
          refine ⟨q1'.fr f7 fun a ha hs => q2 _ ⟨a, ha, rfl⟩ hs, fun j hj hvv => ?_⟩
          rcases hin j hvv with h | h
          · exact q2 j hj h
          · have := (q1'.inB hj).2; omega
        · simp at hxm; subst hxm
          refine ⟨(o6.base hsz).fr f7 fun a ha hs => hvs _ ⟨a, ha, rfl⟩ hs, fun j hj hvv => ?_⟩
          rcases hin j hvv with h | h
          · exact hvs j hj h
          · have := (o6.inB hj).2; omega
      · rcases Nat.lt_or_ge j k with h | h
        · exact hz j h
        · rw [show j = k by omega]; exact he'
  have hkf : k = f := by have : ¬ k < f := of_decide_eq_false hkf
                         omega
  subst hkf
  clear hag
  have hno : (List.range k).find? (fun k => decide ((X.F T.b (S.bfn T.bads) (X.x.pl n k)).2 ≠ 0)) = none := List.find?_eq_none.2 fun j hj => by
    rw [hz j (List.mem_range.1 hj)]; simp
  rw [hno] at hK
  simp only at hK
  have hblen : ∀ j, j ≤ X.x.h → (BB j).length = X.x.bN := fun j hj => by
    by_cases hlt : j < k
    · rw [hblo j hlt]; exact VX.F_len hx _ (by show j ≤ X.x.h; exact hj) (path_in o hn j) (hz j hlt)
    · exact hhil j (by omega) hj
  have himm0 : ∀ j, M0.imm X j → j < w1.heap.size := fun j hj => (h0.sep j hj).2
  -- those that are remembered
  refine loop_i (fun (st : Sl × Int) w6 => ∃ (m : Nat) (ys : List (Sl × List UInt8)), st.2 = m ∧ k ≤ m ∧ m ≤ X.x.h + 1 ∧ Ext w3 w6 ∧ ys.map (·.2) = (List.range m).map BB ∧ Own w6 w3.heap.size st.1 1 (ys.map fun x => slV x.1) ∧
      ∀ x ∈ ys, Bts w6 x.1 x.2 ∧ ∀ j, x.1.inB j → (M0.imm X j ∨ w3.heap.size ≤ j) ∧ j < w6.heap.size ∧ ¬ st.1.inB j) (fun st _ => X.x.h + 1 - st.2.toNat)
    ⟨k, xs, rfl, Nat.le_refl _, hfl, e45, ht4, o5, fun x hxm => ⟨((hx4 x hxm).1.ext e5).rd, fun j hj => ⟨.inr ((hx4 x hxm).1.inB hj).1, (((hx4 x hxm).1.ext e5).inB hj).2, (hx4 x hxm).2 j hj⟩⟩⟩ ?_
  rintro ⟨s2, si2⟩ w6 again ⟨m, ys, hmi, hkm, hm, e6, ht6, o6, hx6⟩ hag
  dsimp only at hmi o6 hx6 ⊢
  subst hmi
  have hyl : ys.length = m := by have := congrArg List.length ht6; simpa using this
  have hs2 : s2.len = m := by have := own_map o6; omega
  have E6 := E3.trans e6
  have h6 := h0.ext E6
  have hp6 : Rd w6 pv 2 (plcs (plTo X.x n X.x.h)) := op.rd.ext e6
  refine cond_i (fun hlt => ?_) (fun hge => ?_)
  · have hlt : m < X.x.h + 1 := by have : (m : Int) < (pv.len : Int) := of_decide_eq_true hlt
                                   omega
    have hd := Ext.drew w6
    refine ⟨fun y => Ext w6 y, hd, ?_⟩
    refine nil_i rfl ?_
    refine ld1Q_i (l := .slc) (o := 14) M0.bl (fun y hy => h6.var.ext hy) rfl ?_
    obtain ⟨ap, hap⟩ := hp6.some (by omega)
    refine ldPQ_i (l := plTo X.x n X.x.h) (p := X.x.pl n m) hap (fun y hy => hp6.ext hy) (rd_plcs hp6) (by omega) (by rw [Int.toNat_natCast]; exact plTo_get (by omega)) ?_
    refine hkn0 (E6.trans hd) (by omega) (fun hc => by omega) fun _ j e hj heb w7 e7 => ?_
    have e67 := hd.trans e7
    refine more_i e67 ?_
    have hbl := h6.len.2
    have hjl := (List.getElem?_eq_some_iff.1 hj).1
    obtain ⟨ab, hab⟩ := h6.bl.rd.some (by omega)
    refine elemQ_i (l := .slc) (x := e.s) hab (fun y hy => h6.bl.rd.ext hy) (by omega) (by omega) (by rw [Int.toNat_natCast, List.getElem?_map, hj]; rfl) ?_
    have hmem := List.mem_of_getElem? hj
    refine append1V_i (slV e.s) rfl rfl (o6.ext e67) (by omega) ((e6.trans e67).size) fun v3 w8 f8 o8 hin => ?_
    have e8 : Ext w3 w8 := Ext.own (e6.trans e67) f8 fun j hj => (o6.inB hj).1
    have h8 := h0.ext (E3.trans e8)
    have hw : IntKind.wrap .i64 ((m : Int) + 1) = ((m + 1 : Nat) : Int) := wrap_nat (n := m + 1) (by omega)
    rw [hw]
    refine hag _ w8 ⟨m + 1, ys ++ [(e.s, e.b)], rfl, by omega, by omega, e8, ?_, ?_, fun x hxm => ?_⟩ (by dsimp only; omega)
    · rw [List.map_append, ht6, List.range_succ, List.map_append, heb]; rfl
    · dsimp only; rw [List.map_append]; exact o8
    · rcases List.mem_append.1 hxm with hxm | hxm
      · obtain ⟨q1, q2⟩ := hx6 x hxm
        refine ⟨(q1.ext e67).fr f8 fun a ha hs => (q2 _ ⟨a, ha, rfl⟩).2.2 hs, fun j hj => ?_⟩
        obtain ⟨r1, r2, r3⟩ := q2 j hj
        have := e67.size
        refine ⟨r1, by have := f8.size; omega, fun hvv => ?_⟩
        rcases hin j hvv with h | h
        · exact r3 h
        · omega
      · simp at hxm; subst hxm
        refine ⟨(h8.each e hmem).1, fun j hj => ?_⟩
        have hij : M0.imm X j := .inr (.inr (.inl ⟨e, hmem, hj⟩))
        have hjl := himm0 j hij
        refine ⟨.inl hij, by have := e8.size; omega, fun hvv => ?_⟩
        have := (o8.inB hvv).1
        omega
  have hge : m = X.x.h + 1 := by have : ¬ (m : Int) < (pv.len : Int) := of_decide_eq_false hge
                                 omega
  subst hge
  clear hag
  have hget : ∀ j (hj : j < ys.length), (ys[j]'hj).2 = BB j := fun j hj => by
    have := congrArg (·[j]?) ht6
    simp only [List.getElem?_map, List.getElem?_eq_getElem hj, Option.map_some, List.getElem?_range (show j < X.x.h + 1 by omega)] at this
    exact Option.some.inj this
  have hyget : ∀ j (hj : j < ys.length), (ys.map fun x => slV x.1)[j]? = some (Lf.enc .slc (ys[j]'hj).1) := fun j hj => by simp [hj]; rfl
  have hyB : ∀ x ∈ ys, x.2.length = X.x.bN := fun x hxm => by
    obtain ⟨j, hj, rfl⟩ := List.getElem_of_mem hxm
    rw [hget j hj]; exact hblen j (by omega)
  have hgD : ∀ j, j ≤ X.q.x.h → (ys.map (·.2)).getD j [] = BB j := fun j hj => by
    have hj' : j < ys.length := by have : j ≤ X.x.h := hj; omega
    rw [← hget j hj']
    simp [List.getD_eq_getElem?_getD, hj']
  have hw1 : IntKind.wrap .i64 ((k : Int) - 1) = ((k - 1 : Nat) : Int) := by rw [show (k : Int) - 1 = ((k - 1 : Nat) : Int) by omega]; exact wrap_nat (by omega)
  rw [hw1]
  have F6 : Fr (M.mut X) w w6 := F1.then E6
  -- the blocks are held
  refine loop_i (fun (x : Int) w7 => ∃ m : Nat, x = (m : Int) - 1 ∧ m ≤ k ∧ Ext w6 w7 ∧ ∀ j, m ≤ j → j < k → vhold X.q n BB j = true) (fun x _ => (x + 1).toNat) ⟨k, by omega, Nat.le_refl _, Fr.refl _ _, fun j h1 h2 => by omega⟩ ?_
  rintro x w7 again ⟨m1, rfl, hm1, e7, hdone⟩ hag
  have E7 := E6.trans e7
  have h7 := h0.ext E7
  have hp7 := hp6.ext e7
  have o7 := o6.ext e7
  have F7 := F6.then e7
  refine cond_i (fun hge => ?_) (fun hlt => ?_)
  · obtain ⟨m, rfl⟩ : ∃ m, m1 = m + 1 := ⟨m1 - 1, by have : ((m1 : Int) - 1) ≥ 0 := of_decide_eq_true hge; omega⟩
    rw [show ((m + 1 : Nat) : Int) - 1 = (m : Int) by omega]
    refine rholds_s (xs := ys) h7 hx hn (by omega) hp7 ⟨o7.rd, fun x hxm => (hx6 x hxm).1.ext e7⟩ hyl hyB fun w8 e8 => ?_
    have hcong : vhold X.q n (fun j => (ys.map (·.2)).getD j []) m = vhold X.q n BB m := vhold_congr (by show m ≤ X.x.h; omega) hgD
    rw [hcong]
    have h8 := h7.ext e8
    refine cond_i (fun hbad => ?_) (fun hgood => ?_)
    · have hall : (List.range k).any (fun j => !vhold X.q n BB j) = true := List.any_eq_true.2 ⟨m, List.mem_range.2 (by omega), hbad⟩
      rw [if_pos hall] at hK
      refine nil_i rfl ?_
      refine ld1_i (l := .int .i64) (o := 12) X.mode h8.var rfl ?_
      refine nil_i rfl ?_
      refine st1_i (o := 15) h8.var (by simp [rCells]) rfl fun w9 f9 v9 => ?_
      have f9 : Fr (fun k => k = X.gr) w8 w9 := f9
      have h9 : RAt w9 X { M0 with broken := X.mode == 1 } := h8.upVar f9 v9 rfl rfl rfl h8.tr h8.trc fun k hk => h8.sep k (hk.elim .inl fun hk => .inr (.inl hk))
      refine hK Sl.nil w9 { M0 with broken := X.mode == 1 } ((F7.then e8).trans f9 fun k _ hk => .inl hk) h9 ?_ hall0 (fun k hk => .inl ((hm0 k).1 hk)) (Rd.nilSl _ _) (hnilB (Q := fun k => RM.imm { M0 with broken := X.mode == 1 } X k))
      show (⟨X.mode == 1, knP M0.kl, M0.trc.map (·.2)⟩ : Vr) = _
      rw [hkl0, hM0]; rfl
    · have hgood' : vhold X.q n BB m = true := by simpa using hgood
      have hwk2 : IntKind.wrap .i64 ((m : Int) - 1) = (m : Int) - 1 := wrap_i64 (by omega) (by omega)
      rw [hwk2]
      refine hag _ w8 ⟨m, rfl, by omega, e7.trans e8, fun j h1 h2 => ?_⟩ (by omega)
      rcases Nat.lt_or_ge m j with h | h
      · exact hdone j (by omega) h2
      · rw [show j = m by omega]; exact hgood'
  have hm0' : m1 = 0 := by have : ¬ ((m1 : Int) - 1) ≥ 0 := of_decide_eq_false hlt
                           omega
  subst hm0'
  have hall : (List.range k).any (fun j => !vhold X.q n BB j) = false := List.any_eq_false.2 fun j hj => by rw [hdone j (Nat.zero_le _) (List.mem_range.1 hj)]; simp
  rw [if_neg (by rw [hall]; simp)] at hK
  clear hag
  have hsz37 : w3.heap.size ≤ w7.heap.size := by have := e6.size; have := e7.size; omega
  have hsz67 := e7.size
  -- what is fresh is remembered
  refine loop_i (fun (x : Int) w8 => ∃ (m : Nat) (U : RM), x = m ∧ m ≤ k - 1 ∧ RAt w8 X U ∧ vput X.q n BB (knP U.kl) m = vput X.q n BB (knP M.kl) (k - 1) ∧ Fr (M0.mut X) w7 w8 ∧ U.tr = M0.tr ∧ U.trc = M0.trc ∧ U.broken = M0.broken ∧
      (∀ j, U.kn.inB j ∨ U.bl.inB j → M0.mut X j ∨ w7.heap.size ≤ j) ∧ (∀ e ∈ U.kl, e ∈ M0.kl ∨ ∃ x ∈ ys, e.s = x.1) ∧ U.kl.length ≤ 64) (fun x _ => x.toNat)
    ⟨k - 1, M0, by omega, Nat.le_refl _, h7, by rw [hkl0], Fr.refl _ _, rfl, rfl, rfl, fun j hj => .inl (hj.elim (fun h => .inr (.inl h)) fun h => .inr (.inr h)), fun e he => .inl he, by rw [hkl0]; exact hkl64⟩ ?_
  rintro x w8 again ⟨m, U, rfl, hmk, h8, hput, f8, ht8, hc8, hb8, ho8, hk8, hl8⟩ hag
  have hUm : ∀ j, U.mut X j → M0.mut X j ∨ w7.heap.size ≤ j := fun j hj => by
    rcases hj with hj | hj | hj
    · exact .inl (.inl hj)
    · exact ho8 j (.inl hj)
    · exact ho8 j (.inr hj)
  have hyU : ∀ x ∈ ys, ∀ j, x.1.inB j → ¬ U.mut X j ∧ ¬ M0.mut X j ∧ j < w7.heap.size := fun x hxm j hj => by
    obtain ⟨r1, r2, r3⟩ := (hx6 x hxm).2 j hj
    have q1 : ¬ M0.mut X j := fun hm => by
      rcases r1 with r1 | r1
      · exact (h0.sep j r1).1 hm
      · have := h0.mlt hm; omega
    refine ⟨fun hm => ?_, q1, by omega⟩
    rcases hUm j hm with h | h
    · exact q1 h
    · omega
  have hpU : ∀ j, pv.inB j → ¬ U.mut X j ∧ ¬ M0.mut X j := fun j hj => by
    have q := op1.inB hj
    have q1 : ¬ M0.mut X j := fun hm => by have := h0.mlt hm; omega
    refine ⟨fun hm => ?_, q1⟩
    rcases hUm j hm with h | h
    · exact q1 h
    · have := (op.inB hj).2; omega
  have hsU : ∀ j, s2.inB j → ¬ U.mut X j ∧ ¬ M0.mut X j ∧ j < w7.heap.size ∧ w3.heap.size ≤ j := fun j hj => by
    have q := o6.inB hj
    have q1 : ¬ M0.mut X j := fun hm => by have := h0.mlt hm; omega
    refine ⟨fun hm => ?_, q1, by omega, q.1⟩
    rcases hUm j hm with h | h
    · exact q1 h
    · omega
  have hp8 : Rd w8 pv 2 (plcs (plTo X.x n X.x.h)) := hp7.fr f8 fun a ha => (hpU _ ⟨a, ha, rfl⟩).2
  have o8 : Own w8 w3.heap.size s2 1 (ys.map fun x => slV x.1) := o7.fr f8 fun a ha => (hsU _ ⟨a, ha, rfl⟩).2.1
  have hx8 : ∀ x ∈ ys, Bts w8 x.1 x.2 := fun x hxm => ((hx6 x hxm).1.ext e7).fr f8 fun a ha => (hyU x hxm _ ⟨a, ha, rfl⟩).2.1
  have hUl := h8.len
  have hsz8 := f8.size
  refine join_i (fun c w9 => w9 = w8 ∧ c = (decide (1 ≤ m) && decide (U.kl.length < 64))) ?_ fun J hJ => ?_
  rotate_left
  · refine cond_i (fun hc => ?_) (fun hc => ?_)
    · have : 1 ≤ m := by have : (m : Int) ≥ 1 := of_decide_eq_true hc
                         omega
      refine nil_i rfl ?_
      refine ld1_i (l := .slc) (o := 13) U.kn h8.var rfl ?_
      refine hJ _ _ ⟨rfl, ?_⟩
      rw [decide_eq_true this, Bool.true_and, hUl.1]
      exact decide_eq_decide.2 (by omega)
    · have : ¬ 1 ≤ m := by have : ¬ (m : Int) ≥ 1 := of_decide_eq_false hc
                           omega
      exact hJ _ _ ⟨rfl, by rw [decide_eq_false this]; rfl⟩
  rintro c w9 ⟨rfl, rfl⟩
  refine cond_i (fun hc => ?_) (fun hc => ?_)
  · rw [Bool.and_eq_true, decide_eq_true_eq, decide_eq_true_eq] at hc
    obtain ⟨hm1', hl64⟩ := hc
    obtain ⟨j, rfl⟩ : ∃ j, m = j + 1 := ⟨m - 1, by omega⟩
    have hjy : j + 1 < ys.length := by omega
    have hjh : j + 1 ≤ X.x.h := by omega
    have hd := Ext.drew w9
    refine ⟨fun y => Ext w9 y, hd, ?_⟩
    refine nil_i rfl ?_
    refine ld1Q_i (l := .slc) (o := 13) U.kn (fun y hy => h8.var.ext hy) rfl ?_
    obtain ⟨ap, hap⟩ := hp8.some (by omega)
    refine ldPQ_i (l := plTo X.x n X.x.h) (p := X.x.pl n (j + 1)) hap (fun y hy => hp8.ext hy) (rd_plcs hp8) (by omega) (by rw [Int.toNat_natCast]; exact plTo_get hjh) ?_
    refine buildSlice_i (plC (X.x.pl n (j + 1)).1 (X.x.pl n (j + 1)).2).toArray (by kernel_rfl) rfl (by omega) fun t w10 e10 o10 htl => ?_
    have e910 := hd.trans e10
    refine more_i e910 ?_
    refine append_i (h8.kn.ext e910) o10.rd plC_one (by omega) (Nat.zero_le _) fun kn' w11 f11 o11 hl11 hin11 => ?_
    have vv11 := (h8.var.ext e910).fr f11 h8.ne.1
    refine nil_i rfl ?_
    refine st1_i (o := 13) vv11 (by simp [rCells]) rfl fun w12 f12 v12 => ?_
    have f12 : Fr (fun k => k = X.gr) w11 w12 := f12
    have hgr9 := h8.var.lt
    have hs910 := e910.size
    have hs11 := f11.size
    have hs12 := f12.size
    have hkngr : ¬ kn'.inB X.gr := fun hi => (hin11 _ hi).elim h8.ne.1 fun h => by omega
    have o12 := o11.fr f12 fun a ha e => hkngr ⟨a, ha, e⟩
    have bl12 := ((h8.bl.ext e910).fr f11 fun a ha hk => h8.ne.2.2 _ hk ⟨a, ha, rfl⟩).fr f12 fun a ha e => h8.ne.2.1 ⟨a, ha, e⟩
    have hdr := Ext.drew w12
    refine ⟨fun y => Ext w12 y, hdr, ?_⟩
    refine nil_i rfl ?_
    refine ld1Q_i (l := .slc) (o := 14) U.bl (fun y hy => v12.ext hy) rfl ?_
    have o812 : Own w12 w3.heap.size s2 1 (ys.map fun x => slV x.1) := ((o8.ext e910).fr f11 fun a ha hk => (hsU _ ⟨a, ha, rfl⟩).1 (.inr (.inl hk))).fr f12 fun a ha e => (hsU _ ⟨a, ha, rfl⟩).1 (.inl e)
    obtain ⟨as2, has2⟩ := o812.rd.some (by omega)
    refine elemQ_i (l := .slc) (x := (ys[j + 1]'hjy).1) has2 (fun y hy => o812.rd.ext hy) (by omega) (by omega) (by rw [Int.toNat_natCast]; exact hyget _ hjy) ?_
    have hg := hget _ hjy
    have hmm := List.getElem_mem hjy
    generalize ys[j + 1]'hjy = u at hg hmm
    refine buildV_i [slV u.1] rfl (fun v hv => by rw [List.mem_singleton.1 hv]; exact ⟨rfl, rfl⟩) rfl (by decide) fun t2 w13 e13 o13 => ?_
    have e1213 := hdr.trans e13
    refine more_i e1213 ?_
    have ht2l : t2.len = 1 := by have := o13.len; simp at this; omega
    refine append_i (bl12.ext e1213) o13.rd (fun v hv => by rw [List.mem_singleton.1 hv]; rfl) (by omega) (Nat.zero_le _) fun bl' w14 f14 o14 hl14 hin14 => ?_
    have vv14 := (v12.ext e1213).fr f14 h8.ne.2.1
    refine nil_i rfl ?_
    refine st1_i (o := 14) vv14 (by simp [rCells]) rfl fun w15 f15 v15 => ?_
    have f15 : Fr (fun k => k = X.gr) w14 w15 := f15
    have hs1213 := e1213.size
    have hs14 := f14.size
    have hkb : ∀ i, kn'.inB i → ¬ bl'.inB i := fun i hi hb => by
      rcases hin14 i hb with h | h
      · rcases hin11 i hi with h' | h'
        · exact h8.ne.2.2 i h' h
        · have := (h8.bl.inB h).2; omega
      · have := (o12.inB hi).2; omega
    have hblgr : ¬ bl'.inB X.gr := fun hi => (hin14 _ hi).elim h8.ne.2.1 fun h => by omega
    have G : Fr (U.mut X) w9 w15 := (((((e910.fr.trans f11 fun k _ hk => (.inr (.inl hk) : U.mut X k)).trans f12 fun k _ hk => .inl hk).then e1213).trans f14 fun k _ hk => .inr (.inr hk)).trans f15 fun k _ hk => .inl hk)
    have o15k := (((o12.ext e1213).fr f14 fun a ha hk => by
      rcases hin11 _ ⟨a, ha, rfl⟩ with h' | h'
      · exact h8.ne.2.2 _ h' hk
      · have := (h8.bl.inB hk).2; omega).fr f15 fun a ha e => hkngr ⟨a, ha, e⟩)
    have o15b := o14.fr f15 fun a ha e => hblgr ⟨a, ha, e⟩
    have hnew := h8.put (p := X.x.pl n (j + 1)) (s := u.1) (kn' := kn') (bl' := bl') (bs := u.2) G v15 o15k o15b (fun i hi => (hin11 i hi).imp id fun h => by omega) (fun i hi => (hin14 i hi).imp id fun h => by omega) hkb (hx8 u hmm) (by rw [hyB u hmm]; omega) fun i hi => by
      obtain ⟨q1, q2, q3⟩ := hyU u hmm i hi
      exact ⟨q1, by omega⟩
    have hwk2 : IntKind.wrap .i64 (((j + 1 : Nat) : Int) - 1) = (j : Int) := by rw [show ((j + 1 : Nat) : Int) - 1 = (j : Int) by omega]; exact wrap_nat (by omega)
    rw [hwk2]
    refine hag _ w15 ⟨j, _, rfl, by omega, hnew, ?_, f8.trans G fun i hi hm => ?_, ht8, hc8, hb8, fun i hi => ?_, fun e he => ?_, ?_⟩ (by omega)
    · rw [← hput]
      conv => rhs; unfold vput
      have hkl : (knP U.kl).length < 64 := by unfold knP; rw [List.length_map]; exact hl64
      rw [if_pos hkl]
      show vput X.q n BB (knP (U.kl ++ [⟨X.x.pl n (j + 1), u.1, u.2⟩])) j = _
      unfold knP
      rw [List.map_append]
      show vput X.q n BB (_ ++ [(X.x.pl n (j + 1), u.2)]) j = _
      rw [hg]; rfl
    · rcases hUm i hm with h | h
      · exact h
      · omega
    · have hii : U.mut X i ∨ w9.heap.size ≤ i := by
        rcases hi with hi | hi
        · exact (hin11 i hi).imp (fun h => .inr (.inl h)) fun h => by omega
        · exact (hin14 i hi).imp (fun h => .inr (.inr h)) fun h => by omega
      rcases hii with h | h
      · exact hUm i h
      · exact .inr (by omega)
    · rcases List.mem_append.1 he with he | he
      · exact hk8 e he
      · simp at he; subst he; exact .inr ⟨u, hmm, rfl⟩
    · simp only [List.length_append, List.length_singleton]; omega
  · have hfin : vput X.q n BB (knP U.kl) m = knP U.kl := by
      cases m with
      | zero => rfl
      | succ m =>
        unfold vput
        have : ¬ (knP U.kl).length < 64 := by
          unfold knP
          rw [List.length_map]
          intro hl
          rw [decide_eq_true hl, decide_eq_true (show 1 ≤ m + 1 by omega)] at hc
          cases hc
        rw [if_neg this]
    rw [hfin] at hput
    refine nil_i rfl ?_
    refine st1_i (o := 16) h8.var (by simp [rCells]) rfl fun w10 f10 v10 => ?_
    have f10 : Fr (fun k => k = X.gr) w9 w10 := f10
    have h10 : RAt w10 X { U with tr := s2, trc := ys } := h8.upVar f10 v10 rfl rfl rfl o8.rd (fun x hxm => ⟨hx8 x hxm, by rw [hyB x hxm]; omega⟩) fun i hi => by
      rcases hi with hi | ⟨x, hxm, hi⟩
      · have := hsU i hi; exact ⟨this.1, by omega⟩
      · have := hyU x hxm i hi; exact ⟨this.1, by omega⟩
    have o10 := o8.fr f10 fun a ha e => (hsU _ ⟨a, ha, rfl⟩).1 (.inl e)
    have hy0 : 0 < ys.length := by omega
    refine elem_i (l := .slc) (x := (ys[0]'hy0).1) o10.rd (by omega) (by omega) (hyget 0 hy0) ?_
    have hg := hget _ hy0
    have hmm := List.getElem_mem hy0
    generalize ys[0]'hy0 = u at hg hmm
    have FF : Fr (M.mut X) w w10 := (F7.trans f8 fun k _ hk => (hm0 k).1 hk).trans f10 fun k _ hk => .inl hk
    have hbase : w.heap.size ≤ w3.heap.size := by omega
    refine hK u.1 w10 { U with tr := s2, trc := ys } FF h10 ?_ (fun i hi => ?_) (fun i hi => (hUm i hi).imp (hm0 i).1 fun h => by omega) (by rw [← hg]; exact (h10.trc u hmm).1) fun i hi => .inr (.inl ⟨u, hmm, hi⟩)
    · show (⟨U.broken, knP U.kl, ys.map (·.2)⟩ : Vr) = _
      rw [hput, ht6, hb8, hbr0, hb]
    · rcases hi with hi | hi
      · have hi' : U.mut X i := hi
        rcases hUm i hi' with h | h
        · exact .inl ((hm0 i).1 h)
        · exact .inr (.inr (by omega))
      · have hyi : ∀ x ∈ ys, x.1.inB i → M.mut X i ∨ M.imm X i ∨ w.heap.size ≤ i := fun x hxm hj => by
          obtain ⟨r1, _, _⟩ := (hx6 x hxm).2 i hj
          rcases r1 with r1 | r1
          · exact .inr (.inl (hi0 i r1))
          · exact .inr (.inr (by omega))
        rcases hi with hi | ⟨x, hxm, hi⟩ | ⟨e, he, hi⟩ | hi | hi
        · exact .inr (.inr (by have := (hsU i hi).2.2.2; omega))
        · exact hyi x hxm hi
        · rcases hk8 e he with he | ⟨x, hxm, hes⟩
          · exact .inr (.inl (hi0 i (.inr (.inr (.inl ⟨e, he, hi⟩)))))
          · exact hyi x hxm (by rw [← hes]; exact hi)
        · exact .inr (.inl (.inr (.inr (.inr (.inl hi)))))
        · exact .inr (.inl (.inr (.inr (.inr (.inr hi)))))
end
end Go.Proofs.YteopoodhclljjaaGreatDoor
