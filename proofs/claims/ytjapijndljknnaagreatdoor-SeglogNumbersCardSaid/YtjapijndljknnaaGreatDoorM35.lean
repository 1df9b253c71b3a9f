/-
  Texts merged by a program of this claim's: PackA, EvCut, CompB.
-/
import Derived.Test.YtjapijndljknnaaGreatDoorM33
import Derived.Test.YtjapijndljknnaaGreatDoorM34
import Derived.Test.YtjapijndljknnaaGreatDoorM11
import Derived.Test.YtjapijndljknnaaGreatDoorM12
import Derived.Test.YtjapijndljknnaaGreatDoorM30
import Derived.Test.YtjapijndljknnaaGreatDoorM26
/-
  Package segment, walked: Pack. Printed by wip/gen_packa.py.
-/
namespace Go.Proofs.YtjapijndljknnaaGreatDoor
open Go Go.RowKit Go.Sort
set_option maxRecDepth 100000
set_option maxHeartbeats 1600000

end Go.Proofs.YtjapijndljknnaaGreatDoor

/-
  A beginning of a slice of events.
-/
namespace Go.Proofs.YtjapijndljknnaaGreatDoor
open Go Go.RowKit Go.Sort
set_option maxRecDepth 100000
theorem SrcV.keep {k : Nat} {S : Nat → Prop} {w w' : World} {v : Value} {n : Nat} {cs : List Value} (h : SrcV k w v n cs) (ho : Only S w w') (hb : ∀ g, v.ownBlock = some g → ¬ S g) : SrcV k w' v n cs := by
  obtain ⟨e, ⟨a, hv, hn⟩ | ⟨g, o, cap, rfl, h1, h2, h3, h4⟩⟩ := h
  · exact ⟨e, .inl ⟨a, hv, hn⟩⟩
  · exact ⟨e, .inr ⟨g, o, cap, rfl, h1, h2, Nat.lt_of_lt_of_le h3 ho.size, fun j hj => ho.cell (h4 j hj) (hb g rfl)⟩⟩
theorem Evs.keep {S : Nat → Prop} {w w' : World} {v : Value} {l : List Ev} (h : Evs w v l) (ho : Only S w w') (hb : ∀ g, v.ownBlock = some g → ¬ S g) : Evs w' v l := ⟨h.src.keep ho hb, h.ok⟩
end Go.Proofs.YtjapijndljknnaaGreatDoor

/-
  Package compact, walked: packed.
-/
namespace Go.Proofs.YtjapijndljknnaaGreatDoor
open Go Go.RowKit Go.Sort
set_option maxRecDepth 100000
set_option maxHeartbeats 1600000
section
variable {X : Nat → Prop} {w0 w : World} {p b : Nat} {d : Dsk} {L : Lg} {all : List Ev}
theorem LDisk_ok (h : HasL X w0 w p b d L) : Calls Tryz.prog 30 #[.pointer (some ⟨p, 0, none⟩)] w fun e w' => e = .returned (.pointer (some ⟨b, 0, none⟩)) ∧ w = w' := by
  obtain ⟨g, o, cap, h⟩ := h
  obtain ⟨c0, -⟩ := h.mem.cells
  have hp := lt_of_block h.mem.blk
  clear h
  go_enter Tryz.func30, Tryz.ntmps30
  go_wp2
  go_ret
  exact ⟨rfl, rfl⟩
end
end Go.Proofs.YtjapijndljknnaaGreatDoor
