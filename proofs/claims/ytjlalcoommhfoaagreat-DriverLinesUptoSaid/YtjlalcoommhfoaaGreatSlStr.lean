/- Strings joined. -/
import Derived.Test.YtjlalcoommhfoaaGreatSlDel
set_option linter.unusedVariables false
set_option linter.unusedSimpArgs false
namespace Go.Sl
theorem BinV.str_add {P : Program} {t : TypeId} {a b : ByteArray} (h : a.size + b.size ≤ 9223372036854775807) : BinV P .add t (.string a) (.string b) (.string (a ++ b)) := fun _ _ w => by
  have h1 : ¬ (((a.size + b.size : Nat) : Int) > IntKind.i64.max) := by
    have e : IntKind.i64.max = 9223372036854775807 := by decide
    rw [e]; omega
  simp only [eqGuard, binOp, Op.stringOp, if_neg h1]
  rfl
end Go.Sl
