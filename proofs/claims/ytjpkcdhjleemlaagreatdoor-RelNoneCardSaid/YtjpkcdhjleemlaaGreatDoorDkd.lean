/-
  The disk: Remove, Rename, Crash.
-/
import Derived.Test.YtjpkcdhjleemlaaGreatDoorDkc
namespace Go.Proofs.YtjpkcdhjleemlaaGreatDoor
open Go.MapKept
end Go.Proofs.YtjpkcdhjleemlaaGreatDoor
