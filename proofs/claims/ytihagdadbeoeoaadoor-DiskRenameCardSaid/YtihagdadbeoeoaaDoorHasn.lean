/-
  Read and List of a disk that a statement has made, told with what has turned: nothing that was there.
-/
import Derived.Test.YtihagdadbeoeoaaDoorHas
namespace Go.Proofs.YtihagdadbeoeoaaDoor
open Go Go.RowKit Go.Sort
section
variable {w0 w w' : World} {b : Nat} {d d' : Dsk}
theorem Has.readn (h : Has w0 w b d) (n : Str) {l : List UInt8} {x : Int} (hr : d.read n = (l, x)) :
    Calls Tryd.prog 22 #[.pointer (some ⟨b, 0, none⟩), .string ⟨n.toArray⟩] w fun e w' => ∃ v, e = .returned (.tuple #[v, .int .i64 x]) ∧ Own w' v l ∧ Has w0 w' b d ∧ (∀ g, v.ownBlock = some g → w.heap.size ≤ g) ∧ Nw w w' := by
  have h' := h
  obtain ⟨S, h1, h2, h3⟩ := h
  have := Read_ok h1 n
  rw [hr] at this
  exact this.mono fun e w' ⟨v, he, hv, hw, hf⟩ => ⟨v, he, hv, h'.nw hw, hf, hw⟩
theorem Has.listn (h : Has w0 w b d) {l : List Str} (hl : d.list = l) :
    Calls Tryd.prog 26 #[.pointer (some ⟨b, 0, none⟩)] w fun e w' => ∃ v, e = .returned v ∧ Ss w' v l ∧ Has w0 w' b d ∧ (∀ g, v.ownBlock = some g → w.heap.size ≤ g) ∧ Nw w w' := by
  have h' := h
  obtain ⟨S, h1, h2, h3⟩ := h
  have := List_ok h1
  rw [hl] at this
  exact this.mono fun e w' ⟨v, he, hv, hw, hf⟩ => ⟨v, he, hv, h'.nw hw, hf, hw⟩
end
end Go.Proofs.YtihagdadbeoeoaaDoor
