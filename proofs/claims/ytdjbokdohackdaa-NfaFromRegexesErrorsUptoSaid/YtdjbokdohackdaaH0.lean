/- The types' kinds, checked against the program's table. -/
import Derived.Test.YtdjbokdohackdaaA29
import Derived.Test.YtdjbokdohackdaaProg
namespace Go.AM
open Go Go.Proofs

def Γ0 : TEnv := { kinds := [(3, (.int .i64)), (4, .bool), (5, (.int .u8)), (9, .str), (22, (.slice (.pair (.int .i64) (.pair (.int .i64) (.pair .bool (.pair (.arr 4 (.int .u64)) .unit)))))), (23, (.slice (.int .i64))), (25, (.pair (.int .i64) (.pair (.int .i64) (.pair (.slice (.pair (.int .i64) (.pair (.int .i64) (.pair .bool (.pair (.arr 4 (.int .u64)) .unit))))) (.pair (.slice (.int .i64)) .unit))))), (46, (.int .u64)), (48, (.arr 4 (.int .u64))), (54, (.pair (.int .i64) (.pair (.int .i64) (.pair .bool (.pair (.arr 4 (.int .u64)) .unit))))), (56, (.slice .bool)), (60, (.slice (.int .u8))), (66, (.slice (.arr 4 (.int .u64)))), (70, (.pair .bool (.pair (.slice (.int .i64)) (.pair (.slice (.int .i64)) .unit)))), (78, (.slice (.arr 2 (.int .i64)))), (82, (.pair .bool (.pair (.slice (.int .i64)) (.pair (.slice (.int .i64)) .unit)))), (84, (.arr 2 (.int .i64))), (97, (.int .u64)), (99, (.slice (.slice (.int .i64)))), (50, .rx), (37, (.slice .rx)), (65, (.slice (.dyn 1))), (64, (.dyn 1)), (68, (.pair (.slice (.arr 4 (.int .u64))) (.pair (.slice (.dyn 1)) .unit))), (80, (.pair (.slice (.arr 4 (.int .u64))) (.pair (.slice (.arr 2 (.int .i64))) .unit))), (39, (.int .i64))], maps := [(64, ((.int .i64), .bool)), (89, ((.int .i64), .fnk))] }
theorem hm0 : Try.prog.follows .mixedOrders = true := by kernel_rfl
theorem hng0 : ∀ fn ∈ Try.prog.funcs, fn.name ≠ "runtime.NumGoroutine" := names_ok (by kernel_rfl)
theorem hΓ0 : Γ0.ok Try.prog = true := by kernel_rfl

end Go.AM
