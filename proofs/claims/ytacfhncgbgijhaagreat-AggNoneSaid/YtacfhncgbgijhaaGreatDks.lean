/-
 The library's sorting of integers and of texts, said of the heap.
-/
import Derived.Test.YtacfhncgbgijhaaGreatVc
import Derived.Test.YtacfhncgbgijhaaGreatFxk
import Derived.Test.YtacfhncgbgijhaaGreatLay
namespace Go.Proofs.YtacfhncgbgijhaaGreat
end Go.Proofs.YtacfhncgbgijhaaGreat
