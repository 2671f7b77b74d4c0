/- Layer 9 (grove): the tables of both sums, as a row lists them. -/
import Derived.Test.YtbmcbjmpogbmeaaDoorSum02
import Derived.Test.YtbmcbjmpogbmeaaDoorSum03
import Derived.Test.YtbmcbjmpogbmeaaDoorRowLib3
set_option linter.unusedSimpArgs false
set_option linter.unusedVariables false
namespace Go.Proofs.YtbmcbjmpogbmeaaDoor
open Go Go.Eng
theorem tabs_of {laid : List (String × DataW Unit)} {W : World} (h : laidMet Tryd.prog laid W) (h1 : ("sallyport/shortsum.first", Go.Lib.tabData .u32 S.sh2.H) ∈ laid) (h2 : ("sallyport/shortsum.rounds", Go.Lib.tabData .u32 S.sh2.K) ∈ laid) : Tabs W :=
  ⟨var_of_laid h h1 (by kernel_rfl) (show _ = some 116 by kernel_rfl) Tryd.underlying116 Tryd.underlying84 (by kernel_rfl) (by kernel_rfl) (by decide),
   var_of_laid h h2 (by kernel_rfl) (show _ = some 121 by kernel_rfl) Tryd.underlying121 Tryd.underlying84 (by kernel_rfl) (by kernel_rfl) (by decide)⟩
namespace L
theorem tabsL_of {laid : List (String × DataW Unit)} {W : World} (h : laidMet Tryd.prog laid W) (h1 : ("sallyport/longsum.first", Go.Lib.tabData .u64 S.L.sh3.H) ∈ laid) (h2 : ("sallyport/longsum.rounds", Go.Lib.tabData .u64 S.L.sh3.K) ∈ laid) : Tabs W :=
  ⟨var_of_laid h h1 (by kernel_rfl) (show _ = some 113 by kernel_rfl) Tryd.underlying113 Tryd.underlying87 (by kernel_rfl) (by kernel_rfl) (by decide),
   var_of_laid h h2 (by kernel_rfl) (show _ = some 119 by kernel_rfl) Tryd.underlying119 Tryd.underlying87 (by kernel_rfl) (by kernel_rfl) (by decide)⟩
end L
end Go.Proofs.YtbmcbjmpogbmeaaDoor
