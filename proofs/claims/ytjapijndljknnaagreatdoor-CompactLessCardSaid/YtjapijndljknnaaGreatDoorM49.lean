/-
  Texts merged by a program of this claim's: EvArg.
-/
import Derived.Test.YtjapijndljknnaaGreatDoorM28
/-
  One event as an argument, opened.
-/
namespace Go.Proofs.YtjapijndljknnaaGreatDoor
open Go Go.ChangeShapes Go.WideShapes Go.ChangeAt Go.RowKit Go.Deep
set_option maxRecDepth 100000
theorem arg_ev {H : Type} {enc : TypeId × Value → H} {W : World} {v : Value} {d : DataW H} {ps : List MemPlace} (h : DataW.Trod enc Tryz.prog W 0 (fun _ => true) true 73 v d ps) :
    ∃ e : Ev, e.Ok ∧ v = .agg #[.int .i64 e.thread, .int .u8 e.op.toNat, .int .i64 e.obj, .int .i64 e.a, .int .i64 e.b] := by
  obtain ⟨e, hc, ho⟩ := open_arg Opener.ev h
  exact ⟨e, ho, agg_of_cells hc (by simp [evV])⟩
end Go.Proofs.YtjapijndljknnaaGreatDoor
