/- The types' kinds, checked against the program's table. -/
import Derived.Test.YtagllmgnmkdogaaA25
import Derived.Test.YtagllmgnmkdogaaProg
namespace Go.AM
open Go Go.Proofs

def Γ0 : TEnv := { kinds := [(3, (.int .i64)), (4, .bool), (5, (.int .u8)), (9, .str), (22, (.slice (.int .i64))), (23, (.slice (.slice (.int .i64)))), (25, (.pair (.slice (.int .i64)) (.pair (.slice (.slice (.int .i64))) (.pair (.slice (.int .i64)) .unit)))), (36, (.arr 2 (.int .u8))), (39, (.slice (.pair (.int .i64) (.pair (.int .i64) (.pair .bool (.pair (.arr 4 (.int .u64)) .unit)))))), (41, (.pair (.int .i64) (.pair (.int .i64) (.pair (.slice (.pair (.int .i64) (.pair (.int .i64) (.pair .bool (.pair (.arr 4 (.int .u64)) .unit))))) (.pair (.slice (.int .i64)) .unit))))), (43, (.int .i64)), (59, (.slice (.int .u8))), (64, (.pair (.int .i64) (.pair (.int .i64) .unit))), (66, (.pair (.pair (.int .i64) (.pair (.int .i64) .unit)) (.pair .str .unit))), (67, (.slice (.pair (.pair (.int .i64) (.pair (.int .i64) .unit)) (.pair .str .unit)))), (68, .unit), (72, (.pair (.int .i64) (.pair (.int .i64) (.pair .str .unit)))), (73, (.slice (.pair (.int .i64) (.pair (.int .i64) (.pair .str .unit))))), (74, (.slice (.arr 4 (.int .u64)))), (75, (.int .u64)), (76, (.arr 4 (.int .u64))), (77, (.arr 4 (.int .u64))), (79, (.pair (.int .i64) (.pair (.int .i64) (.pair .bool (.pair (.arr 4 (.int .u64)) .unit))))), (88, (.slice .bool))], maps := [(61, ((.int .i64), (.int .i64))), (69, ((.pair (.int .i64) (.pair (.int .i64) .unit)), .unit)), (83, (.str, (.int .i64)))] }
theorem hm0 : Try.prog.follows .mixedOrders = true := by kernel_rfl
theorem hng0 : ∀ fn ∈ Try.prog.funcs, fn.name ≠ "runtime.NumGoroutine" := names_ok (by kernel_rfl)
theorem hΓ0 : Γ0.ok Try.prog = true := by kernel_rfl

end Go.AM
