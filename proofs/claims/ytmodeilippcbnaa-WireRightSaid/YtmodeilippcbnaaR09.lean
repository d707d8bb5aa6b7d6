/- Wire: the and gadget, by the program. -/
import Derived.Test.YtmodeilippcbnaaR08
set_option linter.all false
namespace Go.Ab.Ex
open Go.Proofs
set_option maxRecDepth 100000

theorem g45_1 : gCheck 45 #[.int .i64 1] true 1 = true := by decide +kernel
theorem g45_2 : gCheck 45 #[.int .i64 2] true 2 = true := by decide +kernel
theorem g45_3 : gCheck 45 #[.int .i64 3] true 3 = true := by decide +kernel
theorem g45_4 : gCheck 45 #[.int .i64 4] true 4 = true := by decide +kernel
theorem g45_5 : gCheck 45 #[.int .i64 5] true 5 = true := by decide +kernel
theorem g45_6 : gCheck 45 #[.int .i64 6] true 6 = true := by decide +kernel

end Go.Ab.Ex
