/-
  Ground, fourteenth text: maps whose keys are structs (or whatever has the kit's law on keys). The proofs are those of the ninth and the twelfth text.
-/
import Derived.Test.YtfepjeihdcpoaaaGreatFxm
import Derived.DeepKeys5
namespace Go.Proofs.YtfepjeihdcpoaaaGreat
open Go.MapKept

section
variable {P : Program} {t kt et : TypeId} {H : Heap} {r : Nat} {es : Array MapEntry} {clk : Nat} {k : Value}

/-! ### A range over a map that nobody writes to meanwhile -/

end

end Go.Proofs.YtfepjeihdcpoaaaGreat
