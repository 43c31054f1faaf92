/-
 Ground, a text behind the eleventh: an append of a slice that is only made ('append(l, make(..)...)').
-/
import Derived.Test.YtkehfflpbpdokaaGreatFxk
import Derived.Lib.AppendZerosOnto
import Derived.Laws.CopyRow
namespace Go.Proofs.YtkehfflpbpdokaaGreat
end Go.Proofs.YtkehfflpbpdokaaGreat
