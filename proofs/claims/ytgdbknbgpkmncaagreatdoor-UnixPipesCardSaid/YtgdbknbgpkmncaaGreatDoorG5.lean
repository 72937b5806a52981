/- Lemmas of the claim: the machine of the proof and the walks of the program. Conditions: as each says. -/
import Derived.Test.YtgdbknbgpkmncaaGreatDoorG4
import Derived.Laws.StructEq
section
/- A struct's or an array's value is equal to itself. Conditions: its parts are. -/
namespace Go.AM
variable {P : Program}
end Go.AM
end
