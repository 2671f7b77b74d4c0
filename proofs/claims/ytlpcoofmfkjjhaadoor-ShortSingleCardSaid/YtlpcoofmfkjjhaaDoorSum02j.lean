/- Layer 2 (short sums): slices.Chunk. -/
import Derived.Test.YtlpcoofmfkjjhaaDoorSum02i
import Derived.Test.YtlpcoofmfkjjhaaDoorLib5
set_option linter.unusedSimpArgs false
set_option linter.unusedVariables false
namespace Go.Proofs.YtlpcoofmfkjjhaaDoor
open Go Go.Eng

theorem chunk_s {s : Sl} {n : Int} {K : Value → World → Prop} {w : World} (hn : 1 ≤ n) (hK : ∀ g1 g2 w', Ext w w' → w.heap.size ≤ g1 → w.heap.size ≤ g2 → Var w' g1 [.slice s.a s.len s.cap] → Var w' g2 [.int .i64 n] → K (.func (.func 24) #[] #[.pointer (some (at_ g1 0)), .pointer (some (at_ g2 0))]) w') :
    callS Tryd.prog 18 #[.slice s.a s.len s.cap, .int .i64 n] [.one .any] K w := by
  refine f18_ok ?_
  unfold f18
  refine box_i fun g1 w1 e1 hg1 v1 => ?_
  refine box_i fun g2 w2 e2 hg2 v2 => ?_
  refine ld1_i (l := .int .i64) (o := 0) n v2 rfl ?_
  have hf : decide (n < 1) = false := by simp; omega
  refine cond_i (fun h => by rw [show decide (n < 1) = true from h] at hf; cases hf) (fun _ => ?_)
  exact hK g1 g2 w2 (e1.trans e2) hg1 (by have := e1.size; omega) (v1.ext e2) v2
end Go.Proofs.YtlpcoofmfkjjhaaDoor
