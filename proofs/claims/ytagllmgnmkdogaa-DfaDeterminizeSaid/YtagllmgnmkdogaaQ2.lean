/- The examples of the document hold. -/
import Derived.Test.YtagllmgnmkdogaaQ1
namespace Go.AM
open Go
theorem awake_true : p9 () = some true := by
  rw [ep9]
  kernel_rfl
end Go.AM
