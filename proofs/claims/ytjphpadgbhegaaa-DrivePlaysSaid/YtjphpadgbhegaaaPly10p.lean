/- Layer 10 (drive): the law DrivePlays. -/
import Derived.Test.YtjphpadgbhegaaaPly10o
set_option linter.unusedSimpArgs false
set_option linter.unusedVariables false
namespace Go.S
open Go Go.Eng
/-- The same bytes by the same names, up. -/
structure Cl (D D1 : Drv) : Prop where
  n : D1.as.length = D.as.length
  b : ∀ i, (D1.ar i).b = (D.ar i).b
  a : ∀ n, D1.at? n = D.at? n
  d : D1.down = false
theorem badIn_clear {A : Area} {len : Nat} (h64 : A.b.length % 64 = 0) (hl : len = A.b.length / 64) (h : ∀ s : Int, 0 ≤ s → s < len → A.bad s = false) : A.badIn 0 (A.b.length : Int) = false := by
  unfold Area.badIn
  rw [List.any_eq_false]
  intro k hk
  have hk' := List.mem_range.1 hk
  have hn : nS 0 (A.b.length : Int) ≤ len := by
    unfold nS
    split
    · omega
    · omega
  rw [h _ (by omega) (by omega)]
  simp
end Go.S
namespace Go.Proofs.Ytjphpadgbhegaaa
open Go Go.Eng
theorem dParts_s {w : World} {gd : Nat} {L : Lay} {D : S.Drv} {K : Sl → World → Prop} (h : DriveAt w gd L D) (hn : D.as.length ≤ 1000) (hK : ∀ v w', Ext w w' → v.len = D.as.length → K v w') : callS Try.prog 19 #[.pointer (some (at_ gd 0))] [.one .slc] K w := by
  refine f19_ok ?_
  unfold f19
  refine nil_i rfl ?_
  refine ld1_i (l := .slc) (o := 0) L.ps h.var rfl ?_
  have hl : L.ps.len = D.as.length := by
    have h1 := h.parts.len
    have e : ∀ l : List S.Area, (l.flatMap fun a => [Value.string (str a.name), .int .i64 (a.b.length : Int)]).length = l.length * 2 := fun l => by
      induction l with
      | nil => rfl
      | cons a l ih => simp only [List.flatMap_cons, List.length_append, List.length_cons, List.length_nil, ih]; omega
    rw [e] at h1
    omega
  refine cloneP_s h.parts (fun v hv => ?_) (by omega) fun v w1 e1 _ hl2 => hK v w1 e1 (by omega)
  obtain ⟨a, _, h⟩ := List.mem_flatMap.1 hv
  simp only [List.mem_cons, List.not_mem_nil, or_false] at h
  rcases h with rfl | rfl <;> rfl
theorem last_s {wB w : World} {gd gt : Nat} {L : Lay} {T : TLay} {lf : Int} {ar : Bool} {ks : Sl} {D D1 : S.Drv} {p0 : Sl} {ps : S.PartL} {K : Bool → World → Prop} (e0 : Ext wB w) (hp : PartsIn wB p0 ps) (hpl : ps.length ≤ 30)
    (t : TwinAt w wB.heap.size gt T lf ar ks D) (d : DriveAt w gd L D1) (cl : S.Cl D D1) (hin : ∀ k, L.inD gd k → wB.heap.size ≤ k) (hdis : ∀ k, L.inD gd k → k ≠ gt ∧ ¬ T.own D.as.length k) (hn : D.as.length = ps.length)
    (hlen : ∀ i, i < ps.length → ((D.ar i).b.length : Int) = (ps.getD i ([], 0)).2) (hat : ∀ i, i < ps.length → D.at? (ps.getD i ([], 0)).1 = some i) (hb : ∀ i, i < ps.length → (D.ar i).b.length ≤ 1048576 ∧ (D.ar i).b.length % 64 = 0)
    (hno : D.at? [110, 111, 32, 115, 117, 99, 104, 32, 111, 110, 101] = none) (hK : ∀ w', Ext wB w' → K true w') :
    loopS (σ := Int) (fun x59 w again60 =>
                        cond (decide (x59 < (p0.len : Int)))
                          (semS Try.prog (Instr.indexAt 31 (.slice p0.a p0.len p0.cap) (.int .i64 x59)) (.one .adr) (fun x61 w =>
                          semS Try.prog (Instr.loadAt 30 (.pointer (some x61))) (.agg [.str, (.int .i64)]) (fun x62 x63 w =>
                          semS Try.prog (Instr.alloc 30 true (.tuple #[])) (.one .adr) (fun x64 w =>
                          semU Try.prog (Instr.storeAt 30 (.pointer (some x64)) (.agg #[(.string x62), (.int .i64 x63)])) (fun w =>
                          semS Try.prog (Instr.loadAt 51 (.pointer (some (at_ gt 2)))) (.one .slc) (fun x65 w =>
                          semS Try.prog (Instr.indexAt 51 (.slice x65.a x65.len x65.cap) (.int .i64 x59)) (.one .adr) (fun x66 w =>
                          semS Try.prog (Instr.loadAt 23 (.pointer (some x66))) (.one .slc) (fun x67 w =>
                          loopS (σ := Int) (fun x68 w again69 =>
                            cond (decide (x68 < (x67.len : Int)))
                              (semS Try.prog (Instr.loadAt 9 (.pointer (some (x64.add 0)))) (.one .str) (fun x70 w =>
                              callS Try.prog 14 #[(.pointer (some (at_ gd 0))), (.string x70), (.int .i64 x68), (.bool false)] [(.one .bool)] (fun r71 w =>
                              again69 (IntKind.wrap .i64 (x68 + 1)) w) w) w)
                              (semS Try.prog (Instr.loadAt 9 (.pointer (some (x64.add 0)))) (.one .str) (fun x72 w =>
                              semS Try.prog (Instr.loadAt 2 (.pointer (some (x64.add 1)))) (.one (.int .i64)) (fun x73 w =>
                              callS Try.prog 11 #[(.pointer (some (at_ gd 0))), (.string x72), (.int .i64 0), (.int .i64 x73)] [(.one .slc), (.one (.int .i64))] (fun r74 r75 w =>
                              semS Try.prog (Instr.loadAt 9 (.pointer (some (x64.add 0)))) (.one .str) (fun x76 w =>
                              callS Try.prog 21 #[(.pointer (some (at_ gd 0))), (.string x76)] [(.one (.int .i64)), (.one (.int .i64))] (fun r77 r78 w =>
                              drawS w fun C w =>
                              cond (r75 != 0)
                                (K false w)
                                (semQ Try.prog C (convert 22 9 (.slice r74.a r74.len r74.cap)) (.one .str) (fun x79 =>
                                semQ Try.prog C (Instr.loadAt 50 (.pointer (some (at_ gt 1)))) (.one .slc) (fun x80 =>
                                semQ Try.prog C (Instr.indexAt 50 (.slice x80.a x80.len x80.cap) (.int .i64 x59)) (.one .adr) (fun x81 =>
                                semQ Try.prog C (Instr.loadAt 22 (.pointer (some x81))) (.one .slc) (fun x82 =>
                                semQ Try.prog C (convert 22 9 (.slice x82.a x82.len x82.cap)) (.one .str) (fun x83 =>
                                cond (!(x79.toList == x83.toList))
                                  (K false w)
                                  (cond (r78 != 0)
                                    (K false w)
                                    (semQ Try.prog C (Instr.loadAt 2 (.pointer (some (x64.add 1)))) (.one (.int .i64)) (fun x84 =>
                                    cond (r77 != x84)
                                      (K false w)
                                      (again60 (IntKind.wrap .i64 (x59 + 1)) w))))))))))) w) w) w) w) w)) 0 w) w) w) w) w) w) w) w)
                          (callS Try.prog 21 #[(.pointer (some (at_ gd 0))), (.string (ByteArray.mk #[110, 111, 32, 115, 117, 99, 104, 32, 111, 110, 101]))] [(.one (.int .i64)), (.one (.int .i64))] (fun r86 r87 w =>
                          K (r87 == 40) w) w)) 0 w := by
  have hp0 := hp.len
  refine loop_i (fun (x : Int) w' => Ext wB w' ∧ ∃ (i : Nat) (D1 : S.Drv), i ≤ ps.length ∧ x = i ∧ TwinAt w' wB.heap.size gt T lf ar ks D ∧ DriveAt w' gd L D1 ∧ S.Cl D D1) (fun x _ => ps.length - x.toNat) ⟨e0, 0, D1, by omega, rfl, t, d, cl⟩ ?_
  rintro x w1 again ⟨e1, i, D1, hi, rfl, t1, d1, cl⟩ hag
  refine cond_i (fun hlt => ?_) (fun hge => ?_)
  · have hilt : i < ps.length := by have := of_decide_eq_true hlt; omega
    refine part_at (hp.ext e1) hilt fun g w2 e2 hg v2 => ?_
    have hmem : ps.getD i ([], 0) ∈ ps := by
      rw [List.getD_eq_getElem?_getD, List.getElem?_eq_getElem hilt]; exact List.getElem_mem hilt
    have hokp := hp.ok _ hmem
    have hleni := hlen i hilt
    have hati := hat i hilt
    obtain ⟨hbi, h64⟩ := hb i hilt
    generalize ps.getD i ([], 0) = p at v2 hokp hleni hati
    have t2 := t1.ext e2
    have d2 := d1.ext e2
    have hi2 : i < D.as.length := by omega
    have hx1 := t2.xs.len
    have hx2 := (t2.rX i hi2).len
    have hx3 := t2.bs.len
    simp only [badL, List.length_map, List.length_range, Nat.mul_one] at hx1 hx2 hx3
    refine ld1_i (l := .slc) (o := 2) T.xS t2.var rfl ?_
    refine elem_i (l := .slc) (x := T.sX i) t2.xs (by omega) (by omega) (by rw [Int.toNat_natCast, List.getElem?_map, List.getElem?_range hi2]; rfl) ?_
    have hgx : ¬ L.inD gd g := fun h => by have := d1.lt h; omega
    have hi1 : i < D1.as.length := by rw [cl.n]; exact hi2
    have hbl : (D1.ar i).b.length = (D.ar i).b.length := by rw [cl.b]
    refine clear_s (i := i) (len := (T.sX i).len) (nm := p.1) (cs := pc p) d2 cl.d hi1 (by rw [cl.a]; exact hati) (by omega) (by omega) v2 rfl hgx fun w3 f f3 d3 hf => ?_
    have t3 := t2.frD hin hdis f3
    have v3 := v2.fr f3 hgx
    refine ld1_i (l := .str) (o := 0) (str p.1) v3 rfl ?_
    refine ld1_i (l := .int .i64) (o := 1) p.2 v3 rfl ?_
    have hat3 : (D1.set i ((D1.ar i).setBad f)).at? p.1 = some i := by rw [S.Drv.at?_set (by rfl), cl.a]; exact hati
    have har3 : (D1.set i ((D1.ar i).setBad f)).ar i = (D1.ar i).setBad f := S.Drv.ar_set hi1 _
    have hrd : (D1.set i ((D1.ar i).setBad f)).read p.1 0 p.2 = ((D.ar i).b, 0, { D1.set i ((D1.ar i).setBad f) with count := S.cap60 ((D1.set i ((D1.ar i).setBad f)).count + 1), bytes := S.cap60 ((D1.set i ((D1.ar i).setBad f)).bytes + p.2) }) := by
      rw [S.read_at (D := D1.set i ((D1.ar i).setBad f)) cl.d hat3, har3, if_neg (by rw [Bool.not_eq_false, S.within_iff, S.Area.setBad_b]; omega)]
      have hbad : ((D1.ar i).setBad f).badIn 0 p.2 = false := by
        have := S.badIn_clear (A := (D1.ar i).setBad f) (len := (T.sX i).len) (by rw [S.Area.setBad_b]; omega) (by rw [S.Area.setBad_b]; omega) hf
        rw [S.Area.setBad_b, hbl, hleni] at this; exact this
      rw [if_neg (by rw [hbad]; simp), S.Area.setBad_b, cl.b]
      congr 1
      rw [show (0 : Int).toNat = 0 by rfl, List.drop_zero, List.take_of_length_le (by omega)]
    have hlen3 : ∀ j, ((D1.set i ((D1.ar i).setBad f)).ar j).b = (D.ar j).b := fun j => by
      by_cases hij : i = j
      · subst hij; rw [har3, S.Area.setBad_b, cl.b]
      · rw [S.Drv.ar_set_ne hij, cl.b]
    have hn3 : (D1.set i ((D1.ar i).setBad f)).as.length = D.as.length := by rw [← cl.n]; simp [S.Drv.set]
    have hat3' : ∀ n, (D1.set i ((D1.ar i).setBad f)).at? n = D.at? n := fun n => by rw [S.Drv.at?_set (by rfl), cl.a]
    have hdn3 : (D1.set i ((D1.ar i).setBad f)).down = false := cl.d
    generalize D1.set i ((D1.ar i).setBad f) = D3 at d3 hrd hlen3 hn3 hat3' hdn3
    refine dRead_s d3 ⟨by omega, by omega⟩ hokp.1 fun r w4 f4 d4 o4 => ?_
    rw [str_toList, hrd] at d4 o4 ⊢
    simp only at d4 o4 ⊢
    have cl4 : S.Cl D { D3 with count := S.cap60 (D3.count + 1), bytes := S.cap60 (D3.bytes + p.2) } := ⟨hn3, fun j => hlen3 j, fun n => hat3' n, hdn3⟩
    generalize ({ D3 with count := S.cap60 (D3.count + 1), bytes := S.cap60 (D3.bytes + p.2) } : S.Drv) = D4 at d4 cl4
    have hdg := hdis gd (.inl rfl)
    have hBg := hin gd (.inl rfl)
    have hgg : g ≠ gd := fun e => hgx (.inl e)
    have t4 := t3.frGd hBg hdg f4
    have v4 := v3.fr f4 hgg
    refine ld1_i (l := .str) (o := 0) (str p.1) v4 rfl ?_
    refine dSize_s d4 ?_
    have hsz : D4.size p.1 = (p.2, 0) := by
      unfold S.Drv.size
      rw [cl4.a, hati]
      dsimp only
      rw [cl4.b, hleni]
    rw [str_toList, hsz]
    have hd := Ext.drew w4
    have e4 : Ext wB w4 := Ext.own (Ext.own (e1.trans e2) f3 hin) f4 fun k hk => by rw [hk]; exact hBg
    refine ⟨fun x => Ext w4 x, hd, ?_⟩
    refine cond_i (fun h => by simp at h) (fun _ => ?_)
    refine b2sQ_i (fun x hx => o4.rd.ext hx) ?_
    obtain ⟨ba, hba⟩ := t4.bs.some (by omega)
    refine ld1Q_i (l := .slc) (o := 1) T.bS (fun x hx => (t4.ext hx).var) rfl ?_
    refine elemQ_i (l := .slc) (x := T.sB i) hba (fun x hx => (t4.ext hx).bs) (by omega) (by omega) (by rw [Int.toNat_natCast, List.getElem?_map, List.getElem?_range hi2]; rfl) ?_
    refine b2sQ_i (fun x hx => ((t4.ext hx).rB i hi2).rd) ?_
    refine cond_i (fun h => by simp at h) (fun _ => ?_)
    refine cond_i (fun h => by simp at h) (fun _ => ?_)
    refine ld1Q_i (l := .int .i64) (o := 1) p.2 (fun x hx => v4.ext hx) rfl ?_
    refine cond_i (fun h => by simp at h) (fun _ => ?_)
    refine hag _ _ ⟨e4.trans hd, i + 1, D4, by omega, ?_, t4.ext hd, d4.ext hd, cl4⟩ ?_
    · simp only [wrap_i64 (x := (i : Int) + 1) (by omega) (by omega)]; omega
    · simp only [wrap_i64 (x := (i : Int) + 1) (by omega) (by omega)]; omega
  · refine dSize_s d1 ?_
    have hnl : (ByteArray.mk #[110, 111, 32, 115, 117, 99, 104, 32, 111, 110, 101]).toList = [110, 111, 32, 115, 117, 99, 104, 32, 111, 110, 101] := str_toList [110, 111, 32, 115, 117, 99, 104, 32, 111, 110, 101]
    have hsz : D1.size [110, 111, 32, 115, 117, 99, 104, 32, 111, 110, 101] = (0, 40) := by
      unfold S.Drv.size
      rw [cl.a, hno]
    rw [hnl, hsz]
    exact hK w1 e1
end Go.Proofs.Ytjphpadgbhegaaa
