/-
  Texts merged by a program of this claim's: Lives.
-/
import Derived.Test.YtphgiobklbpdeaaGreatDoorM31
import Derived.Test.YtphgiobklbpdeaaGreatDoorM34
/-
  Arguments of chapter 06's laws, opened: a log to be built, lives.
-/
namespace Go.Proofs.YtphgiobklbpdeaaGreatDoor
open Go Go.ChangeShapes Go.WideShapes Go.ChangeAt Go.RowKit Go.Deep
set_option maxRecDepth 100000
structure LifeA where
  frames : List (List Ev)
  acts : List Int
  arm : Int
  keeps : List Int
  again : Int
  left : List Int
/-- A life's six cells. -/
def isLife (W : World) (cs : List Value) (x : LifeA) : Prop := ∃ v0 v1 v3 v5, cs = [v0, v1, .int .i64 x.arm, v3, .int .i64 x.again, v5] ∧ RdK 1 (isEvs W) W v0 x.frames ∧ Rd i64v W v1 x.acts ∧ (∀ z ∈ x.acts, in64 z) ∧ in64 x.arm ∧ Rd i64v W v3 x.keeps ∧ in64 x.again ∧ Rd i64v W v5 x.left
section
variable {H : Type} {enc : TypeId × Value → H} {W : World}
theorem Opener.frames : Opener enc Tryz.prog W 35 (fun cs (l : List (List Ev)) => ∃ v, cs = [v] ∧ RdK 1 (isEvs W) W v l) := Opener.slice (k := 1) Tryz.underlying35 (by kernel_rfl) (by omega) Opener.evs
theorem Opener.ints : Opener enc Tryz.prog W 64 (isI64s W) := Opener.i64s Tryz.underlying64 Tryz.underlying3 (by kernel_rfl)
theorem arg_built {v : Value} {d : DataW H} {ps : List MemPlace} (h : DataW.Trod enc Tryz.prog W 0 (fun _ => true) true 51 v d ps) :
    ∃ (v0 : Value) (fs : List (List Ev)) (size sync : Int), v = .agg #[v0, .int .i64 size, .int .i64 sync] ∧ RdK 1 (isEvs W) W v0 fs ∧ in64 size ∧ in64 sync := by
  obtain ⟨x, c0, c1, c2, hx, ⟨u, hu, hf⟩, ⟨h1, p1⟩, ⟨h2, p2⟩⟩ := open_arg (Opener.struct3 Tryz.underlying51 (by kernel_rfl) (by kernel_rfl) Opener.frames (Opener.i64 Tryz.underlying3) (Opener.i64 Tryz.underlying3)) h
  simp only [List.cons.injEq, and_true] at hu h1 h2
  subst hu h1 h2
  exact ⟨c0, x.1, x.2.1, x.2.2, agg_of_cells hx (by simp), hf, p1, p2⟩
theorem Opener.life : Opener enc Tryz.prog W 86 (isLife W) :=
  (Opener.struct6 Tryz.underlying86 (by kernel_rfl) (by kernel_rfl) Opener.frames Opener.ints (Opener.i64 Tryz.underlying3) Opener.ints (Opener.i64 Tryz.underlying3) Opener.ints).imp
    fun cs ⟨f, a, m, k, g, l⟩ ⟨c0, c1, c2, c3, c4, c5, hc, ⟨u0, e0, r0⟩, ⟨u1, e1, r1, b1⟩, ⟨e2, b2⟩, ⟨u3, e3, r3, b3⟩, ⟨e4, b4⟩, ⟨u5, e5, r5, b5⟩⟩ => by
      simp only [List.cons.injEq, and_true] at e0 e1 e2 e3 e4 e5
      subst e0 e1 e2 e3 e4 e5
      exact ⟨⟨f, a, m, k, g, l⟩, c0, c1, c3, c5, hc, r0, r1, b1, b2, r3, b4, r5⟩
theorem arg_lives {r : Reach} {b0 : Nat} {v : Value} {d : DataW H} {ps : List MemPlace} (hval : Value.okWide Tryz.prog W r b0 82 v) (h : DataW.Trod enc Tryz.prog W 0 (fun _ => true) true 82 v d ps) :
    ∃ l : List LifeA, RdK 6 (isLife W) W v l := arg_slice (k := 6) Tryz.underlying82 (by kernel_rfl) (by omega) Opener.life hval h
end
end Go.Proofs.YtphgiobklbpdeaaGreatDoor
