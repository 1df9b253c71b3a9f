/-
  What a given argument is: bytes, a small number.
-/
import Derived.Test.YtihagdadbeoeoaaDoorDisk
import Derived.ChangeSlices
import Derived.ChangeShapes
import Derived.Deep.Slices
namespace Go.Proofs.YtihagdadbeoeoaaDoor
open Go Go.ChangeShapes Go.WideShapes Go.RowKit
section
variable {H : Type} {enc : TypeId × Value → H} {P : Program} {W : World}
theorem u8_of_int {z : Int} (h : (Lit.int .u8 z).wf = true) : z = ((UInt8.ofNat z.toNat).toNat : Int) := by
  simp only [Lit.wf, Bool.and_eq_true, decide_eq_true_eq] at h
  have h1 : 0 ≤ z := by have := h.1; rwa [show IntKind.u8.min = 0 from rfl] at this
  have h2 : z ≤ 255 := by have := h.2; rwa [show IntKind.u8.max = 255 from rfl] at this
  rw [UInt8.toNat_ofNat']
  omega
theorem cells_slice {v : Value} {a : Option Addr} {n c : Nat} (h : v.cells.toList = [.slice a n c]) (hv : ∀ xs, v ≠ .agg xs) : v = .slice a n c := by
  cases v <;> simp_all [Value.cells]
end
end Go.Proofs.YtihagdadbeoeoaaDoor
