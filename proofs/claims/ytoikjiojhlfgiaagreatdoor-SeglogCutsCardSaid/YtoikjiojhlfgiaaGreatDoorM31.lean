/-
  Texts merged by a program of this claim's: Arr2.
-/
import Derived.Test.YtoikjiojhlfgiaaGreatDoorM20
/-
  An argument that is an array of two ints, opened.
-/
namespace Go.Proofs.YtoikjiojhlfgiaaGreatDoor
open Go Go.ChangeShapes Go.WideShapes Go.ChangeAt Go.RowKit Go.Deep
set_option maxRecDepth 100000
section
variable {H : Type} {enc : TypeId × Value → H} {P : Program} {W : World}
theorem Opener.arr2 {t e : TypeId} (ht : P.underlying t = some (.array 2 e)) (hc : P.cellsOf e = 1) (hC : P.cellsOf t = 2) {R : List Value → Int → Prop} (h0 : Opener enc P W e R) :
    Opener enc P W t (fun cs (x : Int × Int) => ∃ v0 v1, cs = [v0, v1] ∧ R [v0] x.1 ∧ R [v1] x.2) := by
  intro fuel cs x hx
  obtain ⟨xs, n, hfu, hxe, hcl, hlen, hg⟩ := DataW.trod_array ht hx
  rw [hC] at hcl
  match cs, hcl with
  | [c0, c1], _ =>
    match xs, hlen with
    | [y0, y1], _ =>
      have g0 := hg 0 (by omega)
      rw [hc] at g0
      obtain ⟨z0, e0⟩ := h0 n [c0] y0 (by simpa using g0)
      have g1 := hg 1 (by omega)
      rw [hc] at g1
      obtain ⟨z1, e1⟩ := h0 n [c1] y1 (by simpa using g1)
      exact ⟨(z0, z1), c0, c1, rfl, e0, e1⟩
theorem arg_arr2 {t e : TypeId} {v : Value} {d : DataW H} {ps : List MemPlace} (ht : P.underlying t = some (.array 2 e)) (he : P.underlying e = some (.int .i64)) (hc : P.cellsOf e = 1) (hC : P.cellsOf t = 2)
    (h : DataW.Trod enc P W 0 (fun _ => true) true t v d ps) : ∃ x y, v = .agg #[.int .i64 x, .int .i64 y] := by
  obtain ⟨x, v0, v1, hcs, ⟨h0, -⟩, ⟨h1, -⟩⟩ := open_arg (Opener.arr2 ht hc hC (Opener.i64 he)) h
  simp only [List.cons.injEq, and_true] at h0 h1
  subst h0 h1
  exact ⟨x.1, x.2, agg_of_cells hcs (by simp)⟩
end
end Go.Proofs.YtoikjiojhlfgiaaGreatDoor
