/-
  Texts merged by a program of this claim's: CompA, UnpA, UnpB.
-/
import Derived.Test.YtjapijndljknnaaGreatDoorM18
import Derived.Test.YtjapijndljknnaaGreatDoorM32
import Derived.Test.YtjapijndljknnaaGreatDoorM20
import Derived.Test.YtjapijndljknnaaGreatDoorM22
import Derived.Laws.EntriesVeiled
import Derived.Deep.DeepCutAuto
/-
  Package compact, walked: gone, steps and the closures of Compact.
-/
namespace Go.Proofs.YtjapijndljknnaaGreatDoor
open Go Go.RowKit Go.Sort
set_option maxRecDepth 100000
set_option maxHeartbeats 1600000
section
variable {X : Nat → Prop} {w0 w : World} {b : Nat} {d : Dsk}
end
section
variable {X : Nat → Prop} {w0 w : World} {p b pd pn pb pl po pq : Nat} {d : Dsk} {L : Lg} {n : Str}
end
end Go.Proofs.YtjapijndljknnaaGreatDoor

/-
  Package segment, walked: the columns of the denser coding. Printed by wip/gen_unpa.py.
-/
namespace Go.Proofs.YtjapijndljknnaaGreatDoor
open Go Go.RowKit Go.Sort
set_option maxRecDepth 100000
set_option maxHeartbeats 1600000

section
variable {w : World} {g o : Nat} {u : Value} {v : Int}
end
end Go.Proofs.YtjapijndljknnaaGreatDoor

/-
  Package segment, walked: column.
-/
namespace Go.Proofs.YtjapijndljknnaaGreatDoor
open Go Go.RowKit Go.Sort
set_option maxRecDepth 100000
set_option maxHeartbeats 1600000

/-- One element is written. -/
theorem Vec.setAt {k n cap g o j : Nat} {w : World} {cs : List Value} (h : Vec k w (.slice (some ⟨g, o, none⟩) n cap) n cs) (hj : j < cs.length) (u : Value) :
    Vec k (w.setCell ⟨g, o + j, none⟩ u) (.slice (some ⟨g, o, none⟩) n cap) n (cs.set j u) := by
  obtain ⟨h0, ⟨h, -⟩ | ⟨g', o', cap', he, h1, h2, h3, h4, h5, h6⟩⟩ := h
  · cases h
  · obtain ⟨⟨rfl, rfl⟩, rfl⟩ : (g = g' ∧ o = o') ∧ cap = cap' := by simpa using he
    refine ⟨by simpa using h0, .inr ⟨g, o, cap, rfl, h1, h2, by simpa [World.setCell] using h3, fun i hi => ?_, fun i hi => (World.frozen?_setCell _ _ _ _).trans (h5 i hi), fun i hi => ?_⟩⟩
    · by_cases e : i = j
      · subst e
        rw [World.cell?_setCell_same _ _ _ (h6 i hj)]; rfl
      · rw [World.cell?_setCell_other _ _ _ _ (by simp <;> omega)]; exact h4 i hi
    · rw [List.getElem_set]
      split
      · rename_i e; subst e
        exact World.cell?_setCell_same _ _ _ (h6 _ hj)
      · rename_i e
        rw [World.cell?_setCell_other _ _ _ _ (by simp <;> omega)]
        exact h6 i (by simpa using hi)
end Go.Proofs.YtjapijndljknnaaGreatDoor
