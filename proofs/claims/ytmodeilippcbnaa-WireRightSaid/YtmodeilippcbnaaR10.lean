/- Wire: the refresh gadget, by the program and by the document. -/
import Derived.Test.YtmodeilippcbnaaR08
set_option linter.all false
namespace Go.Ab.Ex
open Go.Proofs
set_option maxRecDepth 100000

theorem g46_1 : gCheck 46 #[.int .i64 1] false 1 = true := by decide +kernel
theorem g46_2 : gCheck 46 #[.int .i64 2] false 2 = true := by decide +kernel
theorem g46_3 : gCheck 46 #[.int .i64 3] false 3 = true := by decide +kernel
theorem g46_4 : gCheck 46 #[.int .i64 4] false 4 = true := by decide +kernel
theorem g46_5 : gCheck 46 #[.int .i64 5] false 5 = true := by decide +kernel
theorem g46_6 : gCheck 46 #[.int .i64 6] false 6 = true := by decide +kernel

end Go.Ab.Ex
