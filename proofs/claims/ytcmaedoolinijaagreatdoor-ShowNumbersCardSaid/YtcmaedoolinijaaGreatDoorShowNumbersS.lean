/-
  Texts merged by a program of this claim's: ShowNumbers.
-/
import Derived.Test.YtcmaedoolinijaaGreatDoorM12
namespace Go.Proofs.YtcmaedoolinijaaGreatDoor.ShowNumbers
open Go Go.RowKit
theorem walk (W : World) (hT : STab W) (a b : Int) (ha : -9223372036854775808 ≤ a ∧ a ≤ 9223372036854775807) (hb : -9223372036854775808 ≤ b ∧ b ≤ 9223372036854775807) :
    Calls Tryz.prog 3 #[.int .i64 a, .int .i64 b] W fun e W' => e = .returned (.bool true) ∧ Nw W W' := ShowNumbers_ok hT ha hb
end Go.Proofs.YtcmaedoolinijaaGreatDoor.ShowNumbers
