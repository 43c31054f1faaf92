/-
  Ground, twelfth text: a range over a map, told by the list of entries that were met.
-/
import Derived.Test.YtfepjeihdcpoaaaGreatFxk
namespace Go.Proofs.YtfepjeihdcpoaaaGreat
open Go.MapKept

end Go.Proofs.YtfepjeihdcpoaaaGreat
