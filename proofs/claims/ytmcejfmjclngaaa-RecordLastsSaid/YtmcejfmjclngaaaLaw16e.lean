/- Layer 16 (record): Load and Save over a drive; the law RecordLasts. -/
import Derived.Test.YtmcejfmjclngaaaLaw16d
import Derived.Test.YtmcejfmjclngaaaOne10
set_option linter.unusedSimpArgs false
set_option linter.unusedVariables false
namespace Go.Proofs.Ytmcejfmjclngaaa
open Go Go.Eng
theorem misc_toList : (ByteArray.mk #[109, 105, 115, 99]).toList = [109, 105, 115, 99] := str_toList [109, 105, 115, 99]
/-- A drive whose one partition 'misc' has the bytes b, and no bad sector. -/
abbrev miscD (b : List UInt8) (left : Int) (keep : List Bool) (down : Bool) (c n : Int) : S.Drv := S.one [109, 105, 115, 99] b (fun _ => false) left keep down c n
theorem resL_i {P : Program} {w : World} {t g : Nat} [AggTy P t 6] {a b : S.Half} {r : Bool} {e : Int} {K : Int → Int → Bool → Int → Int → Bool → Bool → Int → World → Prop} (hv : Var w g (rls a b)) (hK : K a.p a.t a.g b.p b.t b.g r e w) :
    ∃ v, (loadVar t (at_ g 0)).run P w = .ok v w ∧ decR [.agg lR, .one .bool, .one (.int .i64)] (.tuple #[v, .bool r, .int .i64 e]) K fun r => r w := by
  refine resV_i (R := fun v => decR [.agg lR, .one .bool, .one (.int .i64)] (.tuple #[v, .bool r, .int .i64 e]) K fun r => r w) (n := 6) hv rfl ?_
  exact hK
/-- 'Load' of a partition of 64 bytes. -/
theorem load_s {w : World} {gd : Nat} {L : Lay} {b : List UInt8} {left c n : Int} {keep : List Bool} {K : Int → Int → Bool → Int → Int → Bool → Bool → Int → World → Prop} (h : DriveAt w gd L (miscD b left keep false c n)) (hb : b.length = 64)
    (hK : ∀ w' c' n' x y r, Fr (fun k => k = gd) w w' → DriveAt w' gd L (miscD b left keep false c' n') → ((S.parseErr (b.take 32) = 0 ∧ (x, y) = S.parse (b.take 32) ∧ r = false) ∨ (S.parseErr (b.take 32) ≠ 0 ∧ x = ⟨15, 7, false⟩ ∧ y = ⟨14, 7, false⟩ ∧ r = true)) → K x.p x.t x.g y.p y.t y.g r 0 w') :
    callS Try.prog 29 #[.pointer (some (at_ gd 0))] [.agg lR, .one .bool, .one (.int .i64)] K w := by
  refine f29_ok ?_
  unfold f29
  refine alloc_i fun g1 w1 e1 hg1 v1 => ?_
  have hgl := h.lt (.inl rfl)
  refine dRead_s (name := ByteArray.mk #[109, 105, 115, 99]) (h.ext e1) ⟨by omega, by omega⟩ ⟨by omega, by omega⟩ fun v w2 f2 d2 o2 => ?_
  rw [misc_toList] at d2 o2 ⊢
  rw [S.read_one (by rw [hb]; decide), S.badIn_none] at d2 o2 ⊢
  simp only [Bool.false_eq_true, if_false] at d2 o2 ⊢
  rw [show (0 : Int).toNat = 0 by rfl, List.drop_zero, show (32 : Int).toNat = 32 by rfl] at o2
  have hlb : (b.take 32).length = 32 := by rw [List.length_take]; omega
  have v2 := v1.fr f2 (by omega)
  refine cond_i (fun h => by cases h) (fun _ => ?_)
  refine parse_s o2.rd (by omega) ?_
  intro w3 e3
  refine alloc_i fun g4 w4 e4 hg4 v4 => ?_
  refine stR_i v4 rfl fun w5 f5 v5 => ?_
  have e35 := Fr.own1 e4 f5 hg4
  have E5 := e3.trans e35
  have d5 := d2.ext E5
  have v15 := v2.ext E5
  have hgl5 := v15.lt
  have hg1d : g1 ≠ gd := by omega
  have F5 : Fr (fun k => k = gd) w w5 := (e1.fr.trans' f2).then E5
  have fin : ∀ {w6 : World} (x y : S.Half) (r : Bool), Fr (fun k => k = g1) w5 w6 → ((S.parseErr (b.take 32) = 0 ∧ (x, y) = S.parse (b.take 32) ∧ r = false) ∨ (S.parseErr (b.take 32) ≠ 0 ∧ x = ⟨15, 7, false⟩ ∧ y = ⟨14, 7, false⟩ ∧ r = true)) → K x.p x.t x.g y.p y.t y.g r 0 w6 := fun x y r f6 hc =>
    hK _ _ _ x y r (F5.trans f6 fun k _ e => by omega) (d5.fr f6 fun k hk e => by have := h.lt hk; omega) hc
  refine cond_i (fun hz => ?_) (fun hz => ?_)
  · have hz' : S.parseErr (b.take 32) = 0 := by simpa using hz
    refine ldR_i v5 ?_
    refine stR_i v15 rfl fun w6 f6 v6 => ?_
    refine resL_i v6 ?_
    exact fin _ _ _ f6 (.inl ⟨hz', rfl, rfl⟩)
  · have hz' : S.parseErr (b.take 32) ≠ 0 := by simpa using hz
    refine first_s fun w6 e6 => ?_
    refine stR_i (v15.ext e6) rfl fun w7 f7 v7 => ?_
    refine resL_i v7 ?_
    exact fin ⟨15, 7, false⟩ ⟨14, 7, false⟩ true (e6.fr.trans' f7) (.inr ⟨hz', rfl, rfl, rfl⟩)
/-- What 'Save' leaves, and tells. -/
def saved (x y : S.Half) (D : S.Drv) : Int × S.Drv := if (x.right && y.right) = false then (12, D) else D.write [109, 105, 115, 99] 0 (S.recB x y)
theorem save_s {w : World} {gd : Nat} {L : Lay} {D : S.Drv} {x y : S.Half} {K : Int → World → Prop} (h : DriveAt w gd L D)
    (hK : ∀ w', Fr (L.inD gd) w w' → DriveAt w' gd L (saved x y D).2 → K (saved x y D).1 w') :
    callS Try.prog 31 #[.pointer (some (at_ gd 0)), .agg #[.int .i64 x.p, .int .i64 x.t, .bool x.g, .int .i64 y.p, .int .i64 y.t, .bool y.g]] [.one (.int .i64)] K w := by
  refine f31_ok ?_
  unfold f31
  refine box_i fun g1 w1 e1 hg1 v1 => ?_
  refine ldR_i (a := x) (b := y) v1 ?_
  unfold saved at hK
  refine encode_s (fun hr w2 e2 => ?_) (fun hr v w2 e2 o2 => ?_)
  · rw [if_pos hr] at hK
    exact cond_i (fun _ => hK w2 (e1.trans e2).fr (h.ext (e1.trans e2))) (fun h => by cases h)
  · rw [if_neg (by rw [hr]; exact Bool.noConfusion)] at hK
    refine cond_i (fun h => by cases h) (fun _ => ?_)
    have E2 := e1.trans e2
    refine dWrite_s (name := ByteArray.mk #[109, 105, 115, 99]) (h.ext E2) ⟨by omega, by omega⟩ o2.rd (by rw [S.recB_len]; omega) (fun _ a ha hd => by have := h.lt hd; have := (o2.inB ⟨a, ha, rfl⟩).1; have := e1.size; omega) fun w3 f3 d3 => ?_
    rw [misc_toList] at d3 ⊢
    exact hK w3 (E2.fr.trans' f3) d3
end Go.Proofs.Ytmcejfmjclngaaa
