/- How many bytes a digest has: both functions. -/
import Derived.Test.YtbmcbjmpogbmeaaDoorSh
import Derived.Test.YtbmcbjmpogbmeaaDoorTy
import Derived.Test.YtbmcbjmpogbmeaaDoorLib6
import Derived.Test.YtbmcbjmpogbmeaaDoorPure08
set_option linter.unusedSimpArgs false
set_option linter.unusedVariables false
namespace Go.Proofs.YtbmcbjmpogbmeaaDoor
open Go Go.Eng
theorem dsz_s {a : Int} {K : Int → World → Prop} {w : World} (hK : K (S.dsz a) w) : callS Tryd.prog 27 #[.int .i64 a] [.one (.int .i64)] K w := by
  refine f27_ok ?_
  unfold f27
  unfold S.dsz at hK
  refine cond_i (fun h => by rw [if_pos h] at hK; exact hK) (fun h => ?_)
  rw [if_neg (by simp [h])] at hK
  refine cond_i (fun h => by rw [if_pos h] at hK; exact hK) (fun h => ?_)
  rw [if_neg (by simp [h])] at hK; exact hK
theorem rdsz_s {a : Int} {K : Int → World → Prop} {w : World} (hK : K (S.dsz a) w) : callS Tryd.prog 16 #[.int .i64 a] [.one (.int .i64)] K w := by
  refine f16_ok ?_
  unfold f16
  unfold S.dsz at hK
  refine cond_i (fun h => by rw [if_pos h] at hK; exact hK) (fun h => ?_)
  rw [if_neg (by simp [h])] at hK
  refine cond_i (fun h => by rw [if_pos h] at hK; exact hK) (fun h => ?_)
  rw [if_neg (by simp [h])] at hK; exact hK
end Go.Proofs.YtbmcbjmpogbmeaaDoor
