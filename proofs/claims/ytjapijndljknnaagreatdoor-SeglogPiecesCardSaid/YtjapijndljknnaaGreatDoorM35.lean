/-
  Texts merged by a program of this claim's: PackA, EvCut, CompB.
-/
import Derived.Test.YtjapijndljknnaaGreatDoorM33
import Derived.Test.YtjapijndljknnaaGreatDoorM34
import Derived.Test.YtjapijndljknnaaGreatDoorM11
import Derived.Test.YtjapijndljknnaaGreatDoorM12
import Derived.Test.YtjapijndljknnaaGreatDoorM30
import Derived.Test.YtjapijndljknnaaGreatDoorM26
/-
  Package segment, walked: Pack. Printed by wip/gen_packa.py.
-/
namespace Go.Proofs.YtjapijndljknnaaGreatDoor
open Go Go.RowKit Go.Sort
set_option maxRecDepth 100000
set_option maxHeartbeats 1600000

end Go.Proofs.YtjapijndljknnaaGreatDoor

/-
  A beginning of a slice of events.
-/
namespace Go.Proofs.YtjapijndljknnaaGreatDoor
open Go Go.RowKit Go.Sort
set_option maxRecDepth 100000
theorem sizeEv (W : World) : (sizeOf (Tryz.prog.elem 25)).run Tryz.prog W = .ok 5 W := by kernel_rfl
theorem elemEv : Tryz.prog.underlying 25 = some (.slice (Tryz.prog.elem 25)) := by kernel_rfl
theorem flatMap_take5 : ∀ (l : List Ev) (j : Nat), (l.take j).flatMap evV = (l.flatMap evV).take (j * 5)
  | [], j => by simp
  | e :: l, 0 => by simp
  | e :: l, j + 1 => by
    rw [List.take_succ_cons, List.flatMap_cons, List.flatMap_cons, flatMap_take5 l j, List.take_append]
    have h5 : (evV e).length = 5 := rfl
    rw [List.take_of_length_le (show (evV e).length ≤ (j + 1) * 5 by rw [h5]; omega), h5, show (j + 1) * 5 - 5 = j * 5 by omega]
/-- l[:j] -/
theorem evs_h {w : World} {a : Option Addr} {n cap : Nat} {l : List Ev} (h : SrcV 5 w (.slice a n cap) n (l.flatMap evV)) (hn : l.length = n) (hok : ∀ e ∈ l, e.Ok) (j : Nat) (hj : j ≤ n) : ∃ a' c',
    (∀ W, (Instr.slice 25 (.slice a n cap) none (some (.int .i64 j)) none).run Tryz.prog W = .ok (.slice a' j c') W) ∧ Evs w (.slice a' j c') (l.take j) := by
  obtain ⟨hlen, ⟨a0, hv, h0⟩ | ⟨g, o, c, hv, h1, h2, h3, h4⟩⟩ := h
  · injection hv with e1 e2 e3
    subst e1 e2 e3
    obtain rfl : j = 0 := by omega
    refine ⟨a, 0, fun W => ?_, ⟨⟨by simp, .inl ⟨a, by simp, by simp⟩⟩, fun e he => hok e (List.mem_of_mem_take he)⟩⟩
    rw [run_slice_h W 25 a 0 0 elemEv .i64 ((0 : Nat) : Int) (by omega) (by omega), sizeEv]
    simp [Result.andThen, sliced]
  · injection hv with e1 e2 e3
    subst e1 e3
    have hs : ∀ W, (Instr.slice 25 (.slice (some ⟨g, o, none⟩) n cap) none (some (.int .i64 j)) none).run Tryz.prog W = .ok (sliced (some ⟨g, o, none⟩) 0 j cap 5) W := fun W => by
      rw [run_slice_h W 25 (some ⟨g, o, none⟩) n cap elemEv .i64 j (by omega) (by omega), sizeEv]
      simp only [Result.andThen, Int.toNat_natCast]
    by_cases hc : cap = 0
    · subst hc
      obtain rfl : j = 0 := by omega
      refine ⟨some ⟨g, o, none⟩, 0, fun W => by rw [hs]; simp [sliced], ⟨⟨by simp, .inl ⟨some ⟨g, o, none⟩, by simp, by simp⟩⟩, fun e he => hok e (List.mem_of_mem_take he)⟩⟩
    · have hl : (l.take j).length = j := by simp; omega
      refine ⟨some ⟨g, o, none⟩, cap, fun W => by rw [hs]; simp [sliced, hc, addr_add], ⟨⟨by rw [hl, flatMap_take5, List.length_take, hlen]; omega, .inr ⟨g, o, cap, by rw [hl], by omega, h2, h3, fun i hi => ?_⟩⟩, fun e he => hok e (List.mem_of_mem_take he)⟩⟩
      rw [flatMap_take5] at hi
      have hi2 : i < (l.flatMap evV).length := by rw [List.length_take] at hi; omega
      rw [h4 i hi2]
      simp only [flatMap_take5, List.getElem_take]
theorem SrcV.keep {k : Nat} {S : Nat → Prop} {w w' : World} {v : Value} {n : Nat} {cs : List Value} (h : SrcV k w v n cs) (ho : Only S w w') (hb : ∀ g, v.ownBlock = some g → ¬ S g) : SrcV k w' v n cs := by
  obtain ⟨e, ⟨a, hv, hn⟩ | ⟨g, o, cap, rfl, h1, h2, h3, h4⟩⟩ := h
  · exact ⟨e, .inl ⟨a, hv, hn⟩⟩
  · exact ⟨e, .inr ⟨g, o, cap, rfl, h1, h2, Nat.lt_of_lt_of_le h3 ho.size, fun j hj => ho.cell (h4 j hj) (hb g rfl)⟩⟩
theorem Evs.keep {S : Nat → Prop} {w w' : World} {v : Value} {l : List Ev} (h : Evs w v l) (ho : Only S w w') (hb : ∀ g, v.ownBlock = some g → ¬ S g) : Evs w' v l := ⟨h.src.keep ho hb, h.ok⟩
end Go.Proofs.YtjapijndljknnaaGreatDoor

/-
  Package compact, walked: packed.
-/
namespace Go.Proofs.YtjapijndljknnaaGreatDoor
open Go Go.RowKit Go.Sort
set_option maxRecDepth 100000
set_option maxHeartbeats 1600000
section
variable {X : Nat → Prop} {w0 w : World} {p b : Nat} {d : Dsk} {L : Lg} {all : List Ev}
theorem LDisk_ok (h : HasL X w0 w p b d L) : Calls Tryz.prog 30 #[.pointer (some ⟨p, 0, none⟩)] w fun e w' => e = .returned (.pointer (some ⟨b, 0, none⟩)) ∧ w = w' := by
  obtain ⟨g, o, cap, h⟩ := h
  obtain ⟨c0, -⟩ := h.mem.cells
  have hp := lt_of_block h.mem.blk
  clear h
  go_enter Tryz.func30, Tryz.ntmps30
  go_wp2
  go_ret
  exact ⟨rfl, rfl⟩
end
end Go.Proofs.YtjapijndljknnaaGreatDoor
