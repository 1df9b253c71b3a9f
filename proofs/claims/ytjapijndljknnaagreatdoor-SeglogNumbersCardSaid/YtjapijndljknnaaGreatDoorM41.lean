/-
  Texts merged by a program of this claim's: CompC.
-/
import Derived.Test.YtjapijndljknnaaGreatDoorM36
import Derived.Test.YtjapijndljknnaaGreatDoorM37
import Derived.Test.YtjapijndljknnaaGreatDoorM39
import Derived.Test.YtjapijndljknnaaGreatDoorM40
import Derived.Deep.DeepCutAuto
/-
  Package compact, walked: Compact.
-/
namespace Go.Proofs.YtjapijndljknnaaGreatDoor
open Go Go.RowKit Go.Sort
set_option maxRecDepth 100000
set_option maxHeartbeats 1600000
section
variable {X : Nat → Prop} {w0 w : World} {p b : Nat} {d : Dsk} {L : Lg} {all : List Ev}
end
end Go.Proofs.YtjapijndljknnaaGreatDoor
