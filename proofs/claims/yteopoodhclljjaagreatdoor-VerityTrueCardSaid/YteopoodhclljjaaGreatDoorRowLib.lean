/- From a law's contract to its row: what the rows' texts share. -/
import Derived.Test.YteopoodhclljjaaGreatDoorNum
import Derived.WalkKit
import Derived.ProofKit
import Derived.OpenShut
import Derived.ShutString
import Derived.ChangeOld
import Derived.Below
import Derived.Carry
set_option linter.unusedSimpArgs false
set_option linter.unusedVariables false
namespace Go.Eng
open Go Go.ChangeShapes Go.WideShapes Go.ChangeAt Go.RowKit

theorem law_run {P : Program} {f : FuncId} {args : Array Value} {w : World} (h : callS P f args [.one .bool] (fun b w' => b = true ∧ Ext w w') w) :
    Calls P f args w fun e w' => e = .returned (.bool true) ∧ Below w.heap.size w w' :=
  Calls.mono (h := h) fun e w' h => by
    cases e <;> simp only [callR] at h
    rename_i v
    cases v <;> simp only [decR, Ty.dec, Lf.dec] at h
    exact ⟨by rw [h.1], h.2.below⟩
theorem wf_i64 {a : Int} (h : (Lit.int .i64 a).wf = true) : -9223372036854775808 ≤ a ∧ a ≤ 9223372036854775807 := by
  simp [Lit.wf, IntKind.signed, IntKind.bits, IntKind.min, IntKind.max] at h; omega
theorem wf_u64 {a : Int} (h : (Lit.int .u64 a).wf = true) : 0 ≤ a ∧ a ≤ 18446744073709551615 := by
  simp [Lit.wf, IntKind.signed, IntKind.bits, IntKind.min, IntKind.max] at h; omega
theorem wf_u32 {a : Int} (h : (Lit.int .u32 a).wf = true) : 0 ≤ a ∧ a ≤ 4294967295 := by
  simp [Lit.wf, IntKind.signed, IntKind.bits, IntKind.min, IntKind.max] at h; omega
theorem wf_u8 {a : Int} (h : (Lit.int .u8 a).wf = true) : 0 ≤ a ∧ a ≤ 255 := by
  simp [Lit.wf, IntKind.signed, IntKind.bits, IntKind.min, IntKind.max] at h; omega

/-- A slice of bytes that came in. -/
theorem bts_of_trod {H : Type} {enc : TypeId × Value → H} {P : Program} {W : World} {base : Nat} {held : Bool} {t e : TypeId} {a : Option Addr} {len cap : Nat} {d : DataW H} {ps : List MemPlace}
    (ht : P.underlying t = some (.slice e)) (he : P.underlying e = some (.int .u8)) (hc : P.cellsOf e = 1) (h : DataW.Trod enc P W base (fun _ => true) held t (.slice a len cap) d ps) :
    ∃ bs : List UInt8, Bts W ⟨a, len, cap⟩ bs ∧ cap ≤ 9223372036854775807 ∧ (bs = [] ∨ ∃ zs rest : List (DataW H), d = .slice zs rest ∧ zs.length = bs.length) := by
  obtain ⟨fuel, hf⟩ := h
  rcases open_ints ht he hc hf with ⟨hcs, _⟩ | ⟨x, l, c, zs, hcs, _, hl, hm, hz, hx, hcell, hwz⟩
  · simp [Value.cells] at hcs
    obtain ⟨rfl, rfl, rfl⟩ := hcs
    exact ⟨[], Rd.nilSl _ _, by omega, .inl rfl⟩
  · simp [Value.cells] at hcs
    obtain ⟨rfl, rfl, rfl⟩ := hcs
    simp at hz
    have hu : ∀ n ∈ zs, 0 ≤ n ∧ n ≤ 255 := fun n hn => wf_u8 (hwz n hn)
    refine ⟨(zs.take len).map fun n => UInt8.ofNat n.toNat, ⟨?_, hl, ?_, ?_⟩, by unfold maxLen at hm; omega, .inr ⟨_, _, (Prod.mk.inj hx).1, ?_⟩⟩
    · simp; omega
    · intro h; cases h
    · rintro a ⟨rfl⟩ i v hv
      rw [List.getElem?_map, List.getElem?_map, List.getElem?_take] at hv
      split at hv
      · rename_i hi
        have hi' : i < zs.length := by omega
        rw [hcell i hi']
        simp only [List.getElem?_eq_getElem hi', Option.map_some, Option.some.injEq] at hv
        rw [← hv]
        have := hu zs[i] (List.getElem_mem _)
        simp only [vB, List.getD_eq_getElem?_getD, List.getElem?_eq_getElem hi', Option.getD_some, UInt8.toNat_ofNat']
        congr 2
        omega
      · simp at hv
    · simp [lits]
end Go.Eng
