/- Functions that make and read sets of numbers kept as maps. Conditions: none. -/
import Derived.Test.YtjafmlbcjhoflaaGreatSoA
import Derived.Test.YtjafmlbcjhoflaaGreatRoB
import Derived.Test.YtjafmlbcjhoflaaGreatAbHs
set_option linter.unusedSimpArgs false
namespace Go.Ab
open Go.Proofs
end Go.Ab
