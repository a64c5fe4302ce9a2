import Derived.Test.YtkhipnhdbaahcaaGreatQBSQ
import Derived.Test.YtkhipnhdbaahcaaGreatQBTE
set_option linter.unusedVariables false
set_option linter.unusedSectionVars false
set_option linter.unusedSimpArgs false
namespace Go.Proofs.YtkhipnhdbaahcaaGreat
open Go Eng
set_option maxRecDepth 100000
set_option exponentiation.threshold 2000
set_option maxHeartbeats 8000000
section
variable {H : H5} {k : Kf Sk.pS} {r : List AVal} {kn : Kf Sk.nS} {rn : List AVal} {m n : Nat} (hs : Sec H k r kn rn m n) (hr : RootK H k r)
include hs hr
end
theorem lw_points {H : H5} (hH : H = H5.real) (x y : Nat) (i : Bool) (u v : Nat) (j : Bool) (e : Nat) (hx : x < 2 ^ 256) (hy : y < 2 ^ 256) (hu : u < 2 ^ 256) (hv : v < 2 ^ 256) (he : e < 2 ^ 256) : Sp 4 [PS H x y i, PS H u v j, u4 H.lim e] (.sb true) :=
  (sec H hH).points (rootK H hH) x y hx hy i u v hu hv j e he
end Go.Proofs.YtkhipnhdbaahcaaGreat
