/-
  Texts merged by a program of this claim's: ShowBack.
-/
import Derived.Test.YtcmaedoolinijaaGreatDoorM32
namespace Go.Proofs.YtcmaedoolinijaaGreatDoor.ShowBack
open Go Go.RowKit
theorem walk (W : World) (hT : STab W) (u0 y0 v1 : Value) (x0 : CodeP) (x1 : List Ev) (x2 : List UInt8) (h0 : CodeM W [u0, y0] x0) (hb : ∀ t ∈ x0.threads, ∀ i ∈ t.code, i.args.length ≤ 1048576) (h1 : RdK 5 isEv W v1 x1) (h2 : x2.length ≤ 9223372036854775807) :
    Calls Tryz.prog 4 #[.agg #[u0, y0], v1, .string ⟨x2.toArray⟩] W fun e W' => e = .returned (.bool true) ∧ Nw W W' := ShowBack_ok hT h0 hb h1 h2
end Go.Proofs.YtcmaedoolinijaaGreatDoor.ShowBack
