/-
  A slice of a slice, read.
-/
import Derived.Test.YtihagdadbeoeoaaDoorApp
import Derived.Laws.Slices
namespace Go.Proofs.YtihagdadbeoeoaaDoor
open Go Go.RowKit
section
variable {α : Type} {f : α → Value} {w : World} {a : Option Addr} {n c k : Nat} {l : List α}
theorem Rd.take (h : Rd f w (.slice a n c) l) (hk : k ≤ l.length) : Rd f w (sliced a 0 k c 1) (l.take k) := by
  rcases h with ⟨a', h1, rfl⟩ | ⟨g, o, cap, h1, h2, h3, h4, h5⟩
  · cases h1
    obtain rfl : k = 0 := by simpa using hk
    exact .inl ⟨a, by simp [sliced], by simp⟩
  · cases h1
    refine .inr ⟨g, o, c, ?_, ?_, h3, h4, fun i hi => ?_⟩
    · unfold sliced; split <;> simp [Addr.add, Nat.min_eq_left hk]
    · rw [List.length_take]; omega
    · rw [List.length_take] at hi
      rw [List.getElem_take]
      exact h5 i (by omega)
theorem Rd.drop (h : Rd f w (.slice a n c) l) (hk : k ≤ l.length) : Rd f w (sliced a k n c 1) (l.drop k) := by
  rcases h with ⟨a', h1, rfl⟩ | ⟨g, o, cap, h1, h2, h3, h4, h5⟩
  · cases h1
    obtain rfl : k = 0 := by simpa using hk
    exact .inl ⟨a, by simp [sliced], by simp⟩
  · cases h1
    by_cases hc : c = k
    · subst hc
      have : l.length = c := by omega
      refine .inr ⟨g, o, 0, ?_, ?_, by simp, h4, fun i hi => ?_⟩
      · unfold sliced; simp
      · rw [List.length_drop]; omega
      · rw [List.length_drop] at hi; omega
    · refine .inr ⟨g, o + k, c - k, ?_, ?_, by omega, h4, fun i hi => ?_⟩
      · unfold sliced; simp [hc, Addr.add]
      · rw [List.length_drop]; omega
      · rw [List.length_drop] at hi
        rw [List.getElem_drop, Nat.add_assoc]
        exact h5 (k + i) (by omega)
theorem sliced_block (a : Option Addr) (l h m s : Nat) : (sliced a l h m s).ownBlock = (Value.slice a (h - l) (m - l)).ownBlock := by
  unfold sliced
  split
  · rfl
  · cases a with
    | none => rfl
    | some a => simp only [Value.ownBlock, Option.map_some, Addr.add]; split <;> rfl
end
end Go.Proofs.YtihagdadbeoeoaaDoor
