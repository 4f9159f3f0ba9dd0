/- The examples of the document hold. -/
import Derived.Test.YtdjbokdohackdaaQ4
namespace Go.AM
open Go
theorem awake_true : p311 () = some true := by
  rw [ep311]
  kernel_rfl
end Go.AM
