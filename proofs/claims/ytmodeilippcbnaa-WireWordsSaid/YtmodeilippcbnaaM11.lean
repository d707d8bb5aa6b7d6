/- Wire: the and gadget, by the document. -/
import Derived.Test.YtmodeilippcbnaaM08
set_option linter.all false
namespace Go.Ab.Ex
open Go.Proofs
set_option maxRecDepth 100000

theorem g68t_1 : gCheck 68 #[.int .i64 1, .bool true] true 1 = true := by decide +kernel
theorem g68t_2 : gCheck 68 #[.int .i64 2, .bool true] true 2 = true := by decide +kernel
theorem g68t_3 : gCheck 68 #[.int .i64 3, .bool true] true 3 = true := by decide +kernel
theorem g68t_4 : gCheck 68 #[.int .i64 4, .bool true] true 4 = true := by decide +kernel
theorem g68t_5 : gCheck 68 #[.int .i64 5, .bool true] true 5 = true := by decide +kernel
theorem g68t_6 : gCheck 68 #[.int .i64 6, .bool true] true 6 = true := by decide +kernel

end Go.Ab.Ex
