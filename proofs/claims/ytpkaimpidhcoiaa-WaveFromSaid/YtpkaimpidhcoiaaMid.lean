/- A list half turned. -/
import Derived.Test.YtpkaimpidhcoiaaBlocks
namespace Go.Proofs.Ytpkaimpidhcoiaa
set_option linter.unusedVariables false
set_option linter.unusedSimpArgs false
open Go.RowKit
theorem mid_set (F : Int → Int) (zs : List Int) (k : Nat) (hz : k < zs.length) : ((zs.take k).map F ++ zs.drop k).set k (F zs[k]) = (zs.take (k + 1)).map F ++ zs.drop (k + 1) := by
  have hl : ((zs.take k).map F).length = k := by simp; omega
  rw [List.set_append_right _ _ (by omega), hl, Nat.sub_self, List.drop_eq_getElem_cons hz, List.set_cons_zero, List.take_succ_eq_append_getElem hz, List.map_append]
  simp
theorem mid_len (F : Int → Int) (zs : List Int) (k : Nat) (hk : k ≤ zs.length) : ((zs.take k).map F ++ zs.drop k).length = zs.length := by
  simp; omega
theorem mid_at (F : Int → Int) (zs : List Int) (k : Nat) (hzl : k < zs.length) : (bv ((zs.take k).map F ++ zs.drop k))[k]? = some (.int .i64 zs[k]) := by
  have hl : ((zs.take k).map F).length = k := by simp; omega
  have e : ((zs.take k).map F ++ zs.drop k)[k]? = some zs[k] := by
    rw [List.getElem?_append_right (by omega), hl, Nat.sub_self, List.getElem?_drop]
    simp
  unfold bv ints
  rw [List.getElem?_toArray, List.getElem?_map, e]
  rfl
end Go.Proofs.Ytpkaimpidhcoiaa
