/- The ground of the contracts: no variable is read. Conditions: none. -/
import Derived.Test.YthncmjlcmlmnmaaT
namespace Go.Proofs.Ythncmjlcmlmnmaa
open Go V
def G0 : Glob := fun _ => none
end Go.Proofs.Ythncmjlcmlmnmaa
