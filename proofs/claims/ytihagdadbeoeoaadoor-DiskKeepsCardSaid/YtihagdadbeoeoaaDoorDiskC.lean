/-
  Names: what 'right' tells.
-/
import Derived.Test.YtihagdadbeoeoaaDoorDiskB
import Derived.Test.YtihagdadbeoeoaaDoorShelf
import Derived.StringKeys
namespace Go.Proofs.YtihagdadbeoeoaaDoor
open Go Go.RowKit
set_option maxRecDepth 100000
set_option maxHeartbeats 400000

def cutset : List UInt8 := [97, 98, 99, 100, 101, 102, 103, 104, 105, 106, 107, 108, 109, 110, 111, 112, 113, 114, 115, 116, 117, 118, 119, 120, 121, 122, 48, 49, 50, 51, 52, 53, 54, 55, 56, 57, 46, 45]
theorem cut_char (c : UInt8) : cutset.contains c = okChar c := by
  have h : ∀ i : Fin 256, cutset.contains (UInt8.ofFin i) = okChar (UInt8.ofFin i) := by decide +kernel
  exact h c.toFin
theorem dropWhile_nil {p : UInt8 → Bool} : ∀ l : List UInt8, l.dropWhile p = [] ↔ l.all p = true
  | [] => by simp
  | a :: l => by
    by_cases h : p a = true
    · simp [h, dropWhile_nil l]
    · simp [h]
theorem trim_nil (l : List UInt8) : (Lib.trimS l cutset).isEmpty = l.all okChar := by
  have e : ∀ l, Lib.trimS l cutset = (l.reverse.dropWhile okChar).reverse.dropWhile okChar := fun l => by
    simp only [Lib.trimS, Lib.trimLeftS, Lib.trimRightS, cut_char]
  rw [e, Bool.eq_iff_iff, List.isEmpty_iff, dropWhile_nil]
  constructor
  · intro h
    have h' : (l.reverse.dropWhile okChar).reverse.all okChar = true := h
    rw [List.all_reverse] at h'
    have hn : l.reverse.dropWhile okChar = [] := by
      cases hc : l.reverse.dropWhile okChar with
      | nil => rfl
      | cons a t =>
        have h1 : okChar a = true := by rw [hc] at h'; simp only [List.all_cons, Bool.and_eq_true] at h'; exact h'.1
        have h2 := List.head?_dropWhile_not okChar l.reverse
        rw [hc] at h2
        simp [h1] at h2
    rw [dropWhile_nil, List.all_reverse] at hn
    exact hn
  · intro h
    have hn : l.reverse.dropWhile okChar = [] := by rw [dropWhile_nil, List.all_reverse]; exact h
    rw [hn]; rfl

theorem trim_calls (n : Str) (w : World) (hn : n.length ≤ 9223372036854775807) :
    Calls Tryd.prog 80 #[.string ⟨n.toArray⟩, .string ⟨cutset.toArray⟩] w fun e w' => e = .returned (.string ⟨(Lib.trimS n cutset).toArray⟩) ∧ Nw w w' := by
  have h := Any.strings_Trim_laid Tryd.lays160 (by kernel_rfl) (⟨n.toArray⟩ : ByteArray) (⟨cutset.toArray⟩ : ByteArray) w (by show n.toArray.size ≤ _; simpa using hn) (by decide) (ascii_of_all (by decide))
  refine h.mono ?_
  rintro e w' ⟨he, hb⟩
  exact ⟨by simpa using he, Nw.of_below hb⟩

theorem right_calls (n : Str) (w : World) (hn : n.length ≤ 9223372036854775807) :
    Calls Tryd.prog 52 #[.string ⟨n.toArray⟩] w fun e w' => e = .returned (.bool (okName n)) ∧ Nw w w' := by
  have ht := Lib.hid (trim_calls n w hn)
  have hc := Lib.hid (trim_nil n)
  by_cases h0 : n = []
  · subst h0
    go_enter Tryd.func52, Tryd.ntmps52
    go_wp2
    go_ret
    exact ⟨rfl, Nw.refl _⟩
  · have hne : n.isEmpty = false := by simpa using h0
    by_cases h1 : n.length ≤ 40
    · have hR : Hid (okName n = n.all okChar) := by show okName n = _; simp [okName, hne, h1]
      go_enter Tryd.func52, Tryd.ntmps52
      go_wp2_with (refine ht.out.mono ?_)
      rintro e w1 ⟨rfl, hw⟩
      have hc' := hc.out
      go_wp2
      go_ret
      exact ⟨by rw [hR.out]; rfl, hw⟩
    · have hR : Hid (okName n = false) := by show okName n = _; simp [okName, h1]
      have h1' : 40 < n.length := by omega
      go_enter Tryd.func52, Tryd.ntmps52
      go_wp2
      go_ret
      exact ⟨by rw [hR.out]; rfl, Nw.refl _⟩
end Go.Proofs.YtihagdadbeoeoaaDoor
