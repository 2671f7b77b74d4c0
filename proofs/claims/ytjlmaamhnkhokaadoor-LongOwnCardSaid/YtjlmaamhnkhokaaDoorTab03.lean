/- Layer 3 (long sums): the package's tables, as a row lists them. -/
import Derived.Test.YtjlmaamhnkhokaaDoorLaw03c
import Derived.Test.YtjlmaamhnkhokaaDoorRowLib3
set_option linter.unusedSimpArgs false
set_option linter.unusedVariables false
namespace Go.Proofs.YtjlmaamhnkhokaaDoor.L
open Go Go.Eng
theorem tabsL_of {laid : List (String × DataW Unit)} {W : World} (h : laidMet Tryd.prog laid W) (h1 : ("sallyport/longsum.first", Go.Lib.tabData .u64 S.L.sh3.H) ∈ laid) (h2 : ("sallyport/longsum.rounds", Go.Lib.tabData .u64 S.L.sh3.K) ∈ laid) : Tabs W :=
  ⟨var_of_laid h h1 (by kernel_rfl) (show _ = some 35 by kernel_rfl) Tryd.underlying35 Tryd.underlying12 (by kernel_rfl) (by kernel_rfl) (by decide),
   var_of_laid h h2 (by kernel_rfl) (show _ = some 43 by kernel_rfl) Tryd.underlying43 Tryd.underlying12 (by kernel_rfl) (by kernel_rfl) (by decide)⟩
end Go.Proofs.YtjlmaamhnkhokaaDoor.L
