/-
  FnExactDriestHour, walked. Conditions: none beyond the layout of its arguments.
-/
import Derived.Test.YtlnfccncbfpoiaaW
namespace Go.Proofs.Ytlnfccncbfpoiaa
open Go.RowKit
set_option maxRecDepth 100000
set_option maxHeartbeats 1000000

end Go.Proofs.Ytlnfccncbfpoiaa
