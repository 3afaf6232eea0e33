/- R.FileCheck: an argument out of its bounds. -/
import Derived.Test.YtjlabbabgkfknaaFile
import Derived.Test.YtjlabbabgkfknaaRefFileNa
import Derived.Test.YtjlabbabgkfknaaRefFileNb
import Derived.Test.YtjlabbabgkfknaaRefFileNc
import Derived.Test.YtjlabbabgkfknaaRefFileNd
import Derived.Test.YtjlabbabgkfknaaRefFileNe
namespace Go.Proofs.Ytjlabbabgkfknaa
set_option linter.unusedVariables false
set_option linter.unusedSimpArgs false
open Go.RowKit
theorem rfcheck_no (wd hi pt ev : Int) (qs : List Int) (t1 t2 : List Value) (sd : Value) (w : World) (hq : qs.length = 64) (h1 : t1.length = 17) (h2 : t2.length = 17) (h : argsOK wd hi pt ev = false) :
    Calls Try.prog 18 #[.agg (fileL wd hi pt qs t1 t2 ev sd).toArray] w fun e w' => e = .returned (.int .i64 1) ∧ Ext w w' := by
  unfold argsOK at h
  cases k1 : inB wd 1 64 with
  | false => exact rfcheck_na wd hi pt ev qs t1 t2 sd w hq h1 h2 k1
  | true =>
    cases k2 : inB hi 1 64 with
    | false => exact rfcheck_nb wd hi pt ev qs t1 t2 sd w hq h1 h2 k1 k2
    | true =>
      by_cases p1 : pt = 1
      · subst p1
        cases k3 : inB ev 0 100 with
        | false => exact rfcheck_nd wd hi ev qs t1 t2 sd w hq h1 h2 k1 k2 k3
        | true => rw [k1, k2, k3] at h; cases h
      · by_cases p3 : pt = 3
        · subst p3
          cases k3 : inB ev 0 100 with
          | false => exact rfcheck_ne wd hi ev qs t1 t2 sd w hq h1 h2 k1 k2 k3
          | true => rw [k1, k2, k3] at h; cases h
        · exact rfcheck_nc wd hi pt ev qs t1 t2 sd w hq h1 h2 k1 k2 (by simpa using p1) (by simpa using p3)
end Go.Proofs.Ytjlabbabgkfknaa
