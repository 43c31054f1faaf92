/-
 Ground: slices.Insert, at any type of elements of one cell, in memory of one's own.
-/
import Derived.Test.YtacfhncgbgijhaaGreatFxs
import Derived.Lib.Overlaps
namespace Go.Proofs.YtacfhncgbgijhaaGreat
end Go.Proofs.YtacfhncgbgijhaaGreat
