/-
  Texts merged by a program of this claim's: Lives.
-/
import Derived.Test.YtjapijndljknnaaGreatDoorM28
import Derived.Test.YtjapijndljknnaaGreatDoorM31
/-
  Arguments of chapter 06's laws, opened: a log to be built, lives.
-/
namespace Go.Proofs.YtjapijndljknnaaGreatDoor
open Go Go.ChangeShapes Go.WideShapes Go.ChangeAt Go.RowKit Go.Deep
set_option maxRecDepth 100000
structure LifeA where
  frames : List (List Ev)
  acts : List Int
  arm : Int
  keeps : List Int
  again : Int
  left : List Int
/-- A life's six cells. -/
def isLife (W : World) (cs : List Value) (x : LifeA) : Prop := ∃ v0 v1 v3 v5, cs = [v0, v1, .int .i64 x.arm, v3, .int .i64 x.again, v5] ∧ RdK 1 (isEvs W) W v0 x.frames ∧ Rd i64v W v1 x.acts ∧ (∀ z ∈ x.acts, in64 z) ∧ in64 x.arm ∧ Rd i64v W v3 x.keeps ∧ in64 x.again ∧ Rd i64v W v5 x.left
section
variable {H : Type} {enc : TypeId × Value → H} {W : World}
theorem Opener.frames : Opener enc Tryz.prog W 22 (fun cs (l : List (List Ev)) => ∃ v, cs = [v] ∧ RdK 1 (isEvs W) W v l) := Opener.slice (k := 1) Tryz.underlying22 (by kernel_rfl) (by omega) Opener.evs
end
end Go.Proofs.YtjapijndljknnaaGreatDoor
