/-
  Texts merged by a program of this claim's: ReadC, ReadD.
-/
import Derived.Test.YtjapijndljknnaaGreatDoorM21
import Derived.Test.YtjapijndljknnaaGreatDoorM17
import Derived.Test.YtjapijndljknnaaGreatDoorShelfS
/-
  Package event, walked: Read.
-/
namespace Go.Proofs.YtjapijndljknnaaGreatDoor
open Go Go.RowKit Go.Sort
set_option maxRecDepth 100000
set_option maxHeartbeats 1600000

theorem infoEv : (Tryz.prog.info? 73).map (fun i => (i.zero, i.size, i.bytes)) = some (some (.agg #[.int .i64 0, .int .u8 0, .int .i64 0, .int .i64 0, .int .i64 0]), 5, 40) := by kernel_rfl
theorem evs_len : ∀ l : List Ev, (l.flatMap evV).length = l.length * 5
  | [] => rfl
  | e :: l => by rw [List.flatMap_cons, List.length_append, evs_len l, List.length_cons]; simp [evV]; omega
/-- Events of one's own, made behind w. -/
def OwnE (w w' : World) (v : Value) (l : List Ev) : Prop := Vec 5 w' v l.length (l.flatMap evV) ∧ Nw w w' ∧ ∀ g, v.ownBlock = some g → w.heap.size ≤ g
theorem OwnE.nw {w w' w'' : World} {v : Value} {l : List Ev} (h : OwnE w w' v l) (hw : Nw w' w'') : OwnE w w'' v l := ⟨h.1.nw hw, h.2.1.trans hw, h.2.2⟩
theorem OwnE.from {w W w' : World} {v : Value} {l : List Ev} (hw : Nw w W) (h : OwnE W w' v l) : OwnE w w' v l := ⟨h.1, hw.trans h.2.1, fun g hg => Nat.le_trans hw.size (h.2.2 g hg)⟩
end Go.Proofs.YtjapijndljknnaaGreatDoor

/-
  Package segment, walked: head, Scan.
-/
namespace Go.Proofs.YtjapijndljknnaaGreatDoor
open Go Go.RowKit Go.Sort
set_option maxRecDepth 100000
set_option maxHeartbeats 1600000

theorem HP_ok (s p : List UInt8) (w : World) : Calls Tryz.prog 60 #[.string ⟨s.toArray⟩, .string ⟨p.toArray⟩] w fun e w' => e = .returned (.bool (decide (p <+: s))) ∧ w = w' := by
  refine (Tryz.strings_HasPrefix ⟨s.toArray⟩ ⟨p.toArray⟩ w).mono ?_
  rintro e w' ⟨rfl, rfl⟩
  refine ⟨?_, rfl⟩
  have : Lib.hasPrefix s p = decide (p <+: s) := by
    unfold Lib.hasPrefix
    rw [Bool.eq_iff_iff, List.isPrefixOf_iff_prefix, decide_eq_true_iff]
  show Ending.returned (.bool (Lib.hasPrefix s p)) = _
  rw [this]
end Go.Proofs.YtjapijndljknnaaGreatDoor
