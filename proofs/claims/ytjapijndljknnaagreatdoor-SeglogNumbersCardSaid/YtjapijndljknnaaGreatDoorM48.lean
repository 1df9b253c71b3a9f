/-
  Texts merged by a program of this claim's: CompRoom.
-/
import Derived.Test.YtjapijndljknnaaGreatDoorM40
/-
  Compaction on a disk that is up, with any room: plain words.
-/
namespace Go.Proofs.YtjapijndljknnaaGreatDoor
open Go
set_option maxRecDepth 100000
theorem sealed_nodup : ∀ {A : List Pc} {seen : List Str} {first : Int}, sealedFrom seen first A = true → (A.map Pc.name).Nodup
  | [], _, _, _ => by simp
  | q :: A, seen, first, h => by
    simp only [sealedFrom, Bool.and_eq_true, decide_eq_true_eq] at h
    have h5 := h.2
    rw [List.map_cons, List.nodup_cons]
    refine ⟨fun hc => ?_, sealed_nodup h5⟩
    obtain ⟨x, hx, e⟩ := List.mem_map.1 hc
    exact (sealed_unique h5).1 x hx (by rw [e]; simp)
end Go.Proofs.YtjapijndljknnaaGreatDoor
