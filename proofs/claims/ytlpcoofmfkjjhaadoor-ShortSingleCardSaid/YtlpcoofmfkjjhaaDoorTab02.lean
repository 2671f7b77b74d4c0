/- Layer 2 (short sums): the package's tables, as a row lists them. -/
import Derived.Test.YtlpcoofmfkjjhaaDoorLaw02c
import Derived.Test.YtlpcoofmfkjjhaaDoorRowLib3
set_option linter.unusedSimpArgs false
set_option linter.unusedVariables false
namespace Go.Proofs.YtlpcoofmfkjjhaaDoor
open Go Go.Eng
theorem tabs_of {laid : List (String × DataW Unit)} {W : World} (h : laidMet Tryd.prog laid W) (h1 : ("sallyport/shortsum.first", Go.Lib.tabData .u32 S.sh2.H) ∈ laid) (h2 : ("sallyport/shortsum.rounds", Go.Lib.tabData .u32 S.sh2.K) ∈ laid) : Tabs W :=
  ⟨var_of_laid h h1 (by kernel_rfl) (show _ = some 35 by kernel_rfl) Tryd.underlying35 Tryd.underlying34 (by kernel_rfl) (by kernel_rfl) (by decide),
   var_of_laid h h2 (by kernel_rfl) (show _ = some 44 by kernel_rfl) Tryd.underlying44 Tryd.underlying34 (by kernel_rfl) (by kernel_rfl) (by decide)⟩
end Go.Proofs.YtlpcoofmfkjjhaaDoor
