/-
  The disk: where a number stands among sorted ones; the numbers of unsynced writes; a file behind a crash.
-/
import Derived.Test.YtjpkcdhjleemlaaGreatDoorDkg
import Derived.Test.YtjpkcdhjleemlaaGreatDoorDks
namespace Go.Proofs.YtjpkcdhjleemlaaGreatDoor
open Go.MapKept
theorem elInt : ElT Tryz.prog ty_sl_int ty_int EI.size 8 := ElT_of (by kernel_rfl)
end Go.Proofs.YtjpkcdhjleemlaaGreatDoor
