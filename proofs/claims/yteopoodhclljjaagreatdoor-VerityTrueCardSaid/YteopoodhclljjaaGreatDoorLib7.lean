/- '[]byte(s)' of any text; a row cut to nothing; a function value with bound arguments; appending one element of several cells. -/
import Derived.Test.YteopoodhclljjaaGreatDoorLib6
import Derived.Lib.ConvBytes
import Derived.Laws.AppendOwn
set_option linter.unusedSimpArgs false
set_option linter.unusedVariables false
namespace Go.Eng
open Go
section
variable {P : Program} {w : World}
theorem s2b_i {t u e : Nat} {z : Value} [h : SliceTy P t e 1 z] [he : ByteTy P e] [hu : StrTy P u] {bs : List UInt8} {K : Sl → World → Prop} (hK : ∀ v w', Ext w w' → OwnB w' w.heap.size v bs → K v w') :
    semS P (convert u t (.string (str bs))) (.one .slc) K w := by
  have hsz : (str bs).size = bs.length := by rw [str_size]
  have hcap := grownCap_ge w (str bs).size 0 e
  refine ⟨_, _, Lib.run_convert_string_bytes w u t e (str bs) hu.und h.und he.und, ?_⟩
  have hsize : (Lib.bytesCells w e (str bs)).size = grownCap w (str bs).size 0 e := by
    unfold Lib.bytesCells
    rw [Array.size_append, Array.size_map, Array.size_replicate]
    show (str bs).size + _ = _
    omega
  refine hK ⟨some ⟨w.heap.size, 0, none⟩, (str bs).size, grownCap w (str bs).size 0 e⟩ _ ?_ ?_
  · refine ⟨rfl, rfl, rfl, by rw [Lib.bytesWorld_size]; omega, fun k hk _ => Lib.bytesWorld_at_old w e _ k hk⟩
  · refine ⟨by rw [List.length_map, hsz, Nat.mul_one], hcap, .inr ⟨w.heap.size, _, e, _, rfl, Nat.le_refl _, Lib.bytesWorld_at_new w e _, fun i hi h => ?_, by rw [hsize, Nat.mul_one], ?_⟩⟩
    · have := h.1; omega
    · unfold Lib.bytesCells
      rw [Array.toList_append, Array.toList_map]
      show List.take ((str bs).size * 1) _ = _
      rw [hsz, Nat.mul_one, List.take_left' (by simp [str])]
      rfl
theorem Own.cut0 {B : Nat} {s : Sl} {sz : Nat} {cs : List Value} (h : Own w B s sz cs) : Own w B (s.cut sz 0 0) sz [] := by
  refine ⟨by simp [Sl.cut], by simp [Sl.cut], ?_⟩
  rcases h.row with ⟨h0, h1, h2⟩ | ⟨g, cur, e, fz, hg, hB, hh, hf, hc, ht⟩
  · exact .inl ⟨by simp [Sl.cut, h0, h2], rfl, by simp [Sl.cut, h2]⟩
  · refine .inr ⟨g, cur, e, fz, ?_, hB, hh, hf, by simpa [Sl.cut] using hc, by simp [Sl.cut]⟩
    simp only [Sl.cut]
    split
    · exact hg
    · rw [hg]; simp [Addr.add_lit]
/-- A call of a method value: its receiver is bound. -/
theorem callBound_i {gf : FuncId} {fn : Func} {bs args : Array Value} {ts : List Ty} {K : curTs ts (World → Prop)} (hf : P.funcs[gf]? = some fn) (hn : (fn.name == "runtime.NumGoroutine") = false) (hb : fn.body.isNone = false) (h : callS P gf (bs ++ args) ts K w) :
    callY P (callSem (.func (.func gf) bs #[]) args) ts K w := by
  refine .inl ⟨gf, bs ++ args, ?_, h⟩
  simp [callSem, Deferred.ofValue, invoke, run_callFunc_body hf hn hb]
end
/-! ### '&&' and '||' whose second part is walked -/
theorem joinAnd {rest : Bool → World → Prop} {c x : Bool} {w : World} {f : (Bool → World → Prop) → Prop} (hR : ∀ w', Ext w w' → rest (c && x) w') (hf : ∀ J : Bool → World → Prop, (∀ w', Ext w w' → J x w') → c = true → f J) :
    joinS (σ := Bool) rest fun J => cond c (f J) (J false w) := by
  unfold joinS
  cases c with
  | false => exact hR w (Fr.refl _ _)
  | true => exact hf rest (fun w' e => hR w' e) rfl
theorem joinOr {rest : Bool → World → Prop} {c x : Bool} {w : World} {f : (Bool → World → Prop) → Prop} (hR : ∀ w', Ext w w' → rest (c || x) w') (hf : ∀ J : Bool → World → Prop, (∀ w', Ext w w' → J x w') → c = false → f J) :
    joinS (σ := Bool) rest fun J => cond c (J true w) (f J) := by
  unfold joinS
  cases c with
  | true => exact hR w (Fr.refl _ _)
  | false => exact hf rest (fun w' e => hR w' e) rfl
/-- A join that only hands on. -/
theorem joinId {rest : Bool → World → Prop} {f : (Bool → World → Prop) → Prop} (h : f rest) : joinS (σ := Bool) (fun b w => rest b w) f := h
end Go.Eng
