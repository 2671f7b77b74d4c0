/- The engine: a body that is a scope behind statements of its own. -/
import Derived.Test.YteopoodhclljjaaGreatDoorEng5
set_option linter.unusedSimpArgs false
set_option linter.unusedVariables false
namespace Go.Eng
open Go
def evFnS (P : Program) (fn : Func) (fv : List Tmp) (sl : List (Nat × Lf)) (pre : List Ann) (an a0 : Ann) (args : List Value) (ts : List Ty) (K : curTs ts (World → Prop)) (w : World) : Prop :=
  match fn.body with
  | some (.seq x (.scope code)) => ev P ⟨fn.ntmps, none, fv⟩ x a0 (env0 0 args) w (thenE (fun e' w' => evScope P ⟨fn.ntmps, none, fv⟩ code sl pre an e' w' (finQ P fn ts K)) (fun _ _ _ => False))
  | _ => False
theorem calls_of_fnS {P : Program} {f : FuncId} (fn : Func) {args : List Value} {ts : List Ty} {K : curTs ts (World → Prop)} {w : World} (fv : List Tmp) (sl : List (Nat × Lf)) (pre : List Ann) (an a0 : Ann)
    (hf : P.funcs[f]? = some fn) (hN : Nat.ble args.length fn.ntmps = true) (h : evFnS P fn fv sl pre an a0 args ts K w) : callS P f args.toArray ts K w := by
  unfold evFnS at h
  split at h
  · rename_i x code hb
    refine calls_of_wpE hf hb (wpIn_seq (ev_sound (c := ⟨fn.ntmps, none, fv⟩) _ _ _ _ _ _ _ h (rel_env0 (Nat.le_of_ble_eq_true hN)) fun ex e' a' w' hr hag hq => ?_))
    cases ex with
    | normal => exact evScope_sound (c := ⟨fn.ntmps, none, fv⟩) hq hr fun ex e'' a'' w'' hr' hag' hq' => ⟨hag'.defers.trans hag.defers, e'', hr', hq'⟩
    | exit id => exact hq.elim
    | goto l => exact hq.elim
    | ret => exact hq.elim
    | panic ch => exact hq.elim
    | outgrown => exact hq.elim
  · exact h.elim
end Go.Eng
