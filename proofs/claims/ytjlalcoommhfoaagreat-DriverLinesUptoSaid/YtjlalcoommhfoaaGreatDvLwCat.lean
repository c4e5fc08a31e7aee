/- Texts put behind one another. -/
import Derived.Test.YtjlalcoommhfoaaGreatDvLwNum
set_option linter.unusedVariables false
set_option linter.unusedSimpArgs false
namespace Go.Sl
theorem Grow_val {n : Int} (h0 : 0 ≤ n) (h : n ≤ 1099511627776) : slices_Grow_byte_nil n = some [] := by
  unfold slices_Grow_byte_nil
  rw [if_neg (by rw [decide_eq_true_iff]; omega), wrap64 (by omega) (by omega)]
  by_cases hn : n - 0 > 0
  · rw [if_pos (decide_eq_true hn), grd_pos (by omega)]; rfl
  · rw [if_neg (by rw [decide_eq_true_iff]; exact hn)]; rfl
theorem Cat1_val {a : List UInt8} (h : a.length ≤ 1099511627776) : blob_Cat_n1 a = some a := by
  unfold blob_Cat_n1 slices_Concat_byte_n1
  rw [wrap64 (by omega) (by omega), if_neg (by rw [decide_eq_true_iff]; omega), Grow_val (by omega) (by omega), Option.bind_some, grd_pos (by simp; omega)]
  rfl
end Go.Sl
