/-
  Texts merged by a program of this claim's: Strs.
-/
import Derived.Test.YtphgiobklbpdeaaGreatDoorM31
/-
  An argument that is a slice of strings, opened.
-/
namespace Go.Proofs.YtphgiobklbpdeaaGreatDoor
open Go Go.ChangeShapes Go.WideShapes Go.ChangeAt Go.RowKit Go.Deep
set_option maxRecDepth 100000
section
variable {H : Type} {enc : TypeId × Value → H} {W : World}
theorem arg_strs {r : Reach} {b0 : Nat} {v : Value} {d : DataW H} {ps : List MemPlace} (hval : Value.okWide Tryz.prog W r b0 45 v) (h : DataW.Trod enc Tryz.prog W 0 (fun _ => true) true 45 v d ps) :
    ∃ l : List Str, Ss W v l ∧ ∀ s ∈ l, s.length ≤ 9223372036854775807 := by
  obtain ⟨l, hl⟩ := arg_slice (k := 1) Tryz.underlying45 (by kernel_rfl) (by omega) (Opener.str Tryz.underlying9) hval h
  refine ⟨l, hl.rd fun cs x h => h.1, fun s hs => ?_⟩
  obtain ⟨cs, -, hb⟩ := hl.mem s hs
  exact hb
end
end Go.Proofs.YtphgiobklbpdeaaGreatDoor
