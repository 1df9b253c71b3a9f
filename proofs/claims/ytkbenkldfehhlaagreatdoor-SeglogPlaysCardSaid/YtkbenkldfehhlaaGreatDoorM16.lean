/-
  Texts merged by a program of this claim's: ReadPlain.
-/
import Derived.Test.YtkbenkldfehhlaaGreatDoorM12
namespace Go.Proofs.YtkbenkldfehhlaaGreatDoor
open Go
section
variable {b : List UInt8} {at_ : Int}
end
end Go.Proofs.YtkbenkldfehhlaaGreatDoor
