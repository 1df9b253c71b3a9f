/-
  Texts merged by a program of this claim's: CompCalm.
-/
import Derived.Test.YtjapijndljknnaaGreatDoorM39
import Derived.Test.YtjapijndljknnaaGreatDoorM34
/-
  Compaction on a calm disk with room: plain words.
-/
namespace Go.Proofs.YtjapijndljknnaaGreatDoor
open Go
set_option maxRecDepth 100000
theorem packIn_len' {l : List Ev} (h : l.length ≤ 100000) {n : Nat} (hn : n < 2 ^ 64) : (packIn n l).length ≤ 24 + 100 * l.length := by
  have h2 := uintB_len n 10 (by omega) (Nat.lt_trans hn (by decide))
  have h3 := uintB_len l.length 10 (by omega) (Nat.lt_trans (show l.length < 2 ^ 64 by omega) (by decide))
  have hc : ∀ f : Ev → Int, (colB (l.map f)).length ≤ 20 * l.length := fun f => by
    have := colB_len (l := l.map f) (by rw [List.length_map]; omega)
    rwa [List.length_map] at this
  have c1 := hc Ev.thread
  have c2 := hc fun e => (e.op.toNat : Int)
  have c3 := hc Ev.obj
  have c4 := hc Ev.a
  have c5 := hc Ev.b
  simp only [packIn, picks, List.flatMap_cons, List.flatMap_nil, List.length_append, List.length_nil]
  have : denseS.length = 4 := rfl
  omega
theorem packB_len {l : List Ev} (h : l.length ≤ 100000) : (packB 0 l).length ≤ 28 + 100 * l.length := by
  have h1 := packIn_len' h (n := 0) (by omega)
  have h2 : (packB 0 l).length = (packIn 0 l).length + 4 := by unfold packB sealB; rw [List.length_append]; rfl
  omega
theorem rmEach_calm : ∀ (A : List Pc) (d : Dsk), Calm d → (A.map Pc.name).Nodup → (∀ q ∈ A, q.name ∈ namesF d.files) → ∃ F, rmEach A d = ({ d with files := F }, 0) ∧ (namesF F).Nodup ∧ ∀ x, x ∈ namesF F ↔ x ∈ namesF d.files ∧ x ∉ A.map Pc.name
  | [], d, h, _, _ => ⟨d.files, rfl, h.names, fun x => by simp⟩
  | q :: A, d, h, hl, hm => by
    have hl' := List.nodup_cons.1 (by simpa using hl : (q.name :: A.map Pc.name).Nodup)
    unfold rmEach
    rw [remove_calm h (hm q (by simp)), if_neg (by simp)]
    obtain ⟨F, f1, f2, f3⟩ := rmEach_calm A { d with files := delF d.files q.name } (h.delF q.name) hl'.2 fun x hx => by
      simp only
      rw [namesF_delF, h.names.mem_erase_iff]
      exact ⟨fun e => hl'.1 (e ▸ List.mem_map.2 ⟨x, hx, rfl⟩), hm x (by simp [hx])⟩
    refine ⟨F, f1, f2, fun x => (f3 x).trans ?_⟩
    simp only
    rw [namesF_delF, h.names.mem_erase_iff]
    simp only [List.map_cons, List.mem_cons, not_or]
    constructor
    · rintro ⟨⟨a, b⟩, c⟩; exact ⟨b, a, c⟩
    · rintro ⟨a, b, c⟩; exact ⟨⟨b, a⟩, c⟩
end Go.Proofs.YtjapijndljknnaaGreatDoor
