/- prefix.Covers. -/
import Derived.Test.YtnklbeigikcfkaaDoorHo
namespace Go.Proofs.YtnklbeigikcfkaaDoor
open Go.RowKit
section
variable {w : World}
end
end Go.Proofs.YtnklbeigikcfkaaDoor
