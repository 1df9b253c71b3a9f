/-
  Texts merged by a program of this claim's: SeglogNone.
-/
import Derived.Test.YtoikjiojhlfgiaaGreatDoorM17
import Derived.Test.YtoikjiojhlfgiaaGreatDoorM19
/-
  amanuensislaw05.SeglogNone: a log that neither Create nor Resume made answers nothing, and ErrNil.
-/
namespace Go.Proofs.YtoikjiojhlfgiaaGreatDoor.SeglogNone
open Go Go.RowKit Go.Sort
set_option maxRecDepth 100000
set_option maxHeartbeats 1600000

theorem walk (w : World) (ht : Tab w) (c0 c1 c2 c3 c4 v1 : Value) (h1 : ∃ a l c, v1 = .slice a l c) :
    Calls Tryz.prog 6 #[.agg #[c0, c1, c2, c3, c4], v1] w fun e w' => e = .returned (.bool true) ∧ Nw w w' := by
  obtain ⟨sa, sl, sc, rfl⟩ := h1
  have HT := Lib.hid ht
  clear ht
  have AW := Lib.hid (fun w ht => awake_ok w ht)
  go_enter Tryz.func6, Tryz.ntmps6
  go_wp2
  generalize hW2 : ((w.alloc (.cells #[c0, c1, c2, c3, c4] 55)).alloc (.cells #[.pointer none, .int .i64 0, .slice none 0 0, .int .i64 0, .int .i64 0, .int .i64 0, .bool false] 61)).alloc (.cells #[.pointer none, .pointer (some ⟨w.heap.size + 1, 0, none⟩)] 28) = W2
  have HN2 : Hid (Nw w W2) := Lib.hid (by rw [← hW2]; exact (((Nw.refl w).alloc _).alloc _).alloc _)
  have HC0 : Hid (W2.cell? ⟨w.heap.size, 0, none⟩ = some c0) := Lib.hid (by rw [← hW2]; clear hW2; go_simp)
  have HC1 : Hid (W2.cell? ⟨w.heap.size, 1, none⟩ = some c1) := Lib.hid (by rw [← hW2]; clear hW2; go_simp)
  have HC2 : Hid (W2.cell? ⟨w.heap.size, 2, none⟩ = some c2) := Lib.hid (by rw [← hW2]; clear hW2; go_simp)
  have HC3 : Hid (W2.cell? ⟨w.heap.size, 3, none⟩ = some c3) := Lib.hid (by rw [← hW2]; clear hW2; go_simp)
  have HC4 : Hid (W2.cell? ⟨w.heap.size, 4, none⟩ = some c4) := Lib.hid (by rw [← hW2]; clear hW2; go_simp)
  have HE0 : Hid (W2.cell? ⟨w.heap.size + 1 + 1, 0, none⟩ = some (.pointer none)) := Lib.hid (by rw [← hW2]; clear hW2; go_simp)
  have HE1 : Hid (W2.cell? ⟨w.heap.size + 1 + 1, 1, none⟩ = some (.pointer (some ⟨w.heap.size + 1, 0, none⟩))) := Lib.hid (by rw [← hW2]; clear hW2; go_simp)
  have HZ : Hid (ZeroLog W2 (w.heap.size + 1)) := Lib.hid (by rw [← hW2]; clear hW2; constructor <;> go_simp)
  clear hW2
  go_loopw [13] (fun i wr => (i = .int .i64 0 ∨ i = .int .i64 1 ∨ i = .int .i64 2) ∧ Nw W2 wr) (fun i _ => 2 - (intOf i).toNat)
  case atStart => exact ⟨.inl rfl, Nw.refl _⟩
  case round =>
    obtain ⟨hi, hw⟩ := hrel
    have HW := Lib.hid hw
    clear hw
    rcases hi with rfl | rfl | rfl
    · have ND : Hid (NoLog wr (.pointer none)) := Lib.hid (.inl rfl)
      have e0 := HW.out.cell HE0.out
      have x0 := HW.out.cell HC0.out
      have x1 := HW.out.cell HC1.out
      have x2 := HW.out.cell HC2.out
      have x3 := HW.out.cell HC3.out
      have x4 := HW.out.cell HC4.out
      go_wp2_with fail
      have ND1 := Lib.hid (ND.out.nw ((Nw.refl wr).alloc (.cells #[c0, c1, c2, c3, c4] 55)))
      refine (LAppend_no ND1.out _ ⟨_, _, _, rfl⟩).mono ?_
      rintro e w1 ⟨rfl, rfl⟩
      go_wp2_with fail
      refine (LSync_no ND1.out).mono ?_
      rintro e w1 ⟨rfl, rfl⟩
      go_wp2_with fail
      refine (Swap_no ND1.out _ ⟨_, _, _, rfl⟩).mono ?_
      rintro e w1 ⟨rfl, rfl⟩
      go_wp2_with fail
      refine (Len_no ND1.out).mono ?_
      rintro e w1 ⟨rfl, rfl⟩
      go_wp2_with fail
      refine (Acked_no ND1.out).mono ?_
      rintro e w1 ⟨rfl, rfl⟩
      go_wp2_with fail
      refine (NPieces_no ND1.out).mono ?_
      rintro e w2 ⟨⟨pa, pc, rfl⟩, n2⟩
      have ND2 := Lib.hid (ND1.out.nw n2)
      have N2 := Lib.hid (((Nw.refl wr).alloc (.cells #[c0, c1, c2, c3, c4] 55)).trans n2)
      clear n2
      go_wp2_with fail
      refine (Over_no ND2.out).mono ?_
      rintro e w3 ⟨rfl, rfl⟩
      go_wp2_with fail
      refine (LDisk_no ND2.out).mono ?_
      rintro e w3 ⟨rfl, rfl⟩
      go_wp2
      go_roundw
      case rel => exact ⟨.inr (.inl rfl), HW.out.trans N2.out⟩
      case measure => simp [intOf]
    · have ND : Hid (NoLog wr (.pointer (some ⟨w.heap.size + 1, 0, none⟩))) := Lib.hid (.inr ⟨_, rfl, (HZ.out.nw HW.out)⟩)
      have e0 := HW.out.cell HE1.out
      have x0 := HW.out.cell HC0.out
      have x1 := HW.out.cell HC1.out
      have x2 := HW.out.cell HC2.out
      have x3 := HW.out.cell HC3.out
      have x4 := HW.out.cell HC4.out
      go_wp2_with fail
      have ND1 := Lib.hid (ND.out.nw ((Nw.refl wr).alloc (.cells #[c0, c1, c2, c3, c4] 55)))
      refine (LAppend_no ND1.out _ ⟨_, _, _, rfl⟩).mono ?_
      rintro e w1 ⟨rfl, rfl⟩
      go_wp2_with fail
      refine (LSync_no ND1.out).mono ?_
      rintro e w1 ⟨rfl, rfl⟩
      go_wp2_with fail
      refine (Swap_no ND1.out _ ⟨_, _, _, rfl⟩).mono ?_
      rintro e w1 ⟨rfl, rfl⟩
      go_wp2_with fail
      refine (Len_no ND1.out).mono ?_
      rintro e w1 ⟨rfl, rfl⟩
      go_wp2_with fail
      refine (Acked_no ND1.out).mono ?_
      rintro e w1 ⟨rfl, rfl⟩
      go_wp2_with fail
      refine (NPieces_no ND1.out).mono ?_
      rintro e w2 ⟨⟨pa, pc, rfl⟩, n2⟩
      have ND2 := Lib.hid (ND1.out.nw n2)
      have N2 := Lib.hid (((Nw.refl wr).alloc (.cells #[c0, c1, c2, c3, c4] 55)).trans n2)
      clear n2
      go_wp2_with fail
      refine (Over_no ND2.out).mono ?_
      rintro e w3 ⟨rfl, rfl⟩
      go_wp2_with fail
      refine (LDisk_no ND2.out).mono ?_
      rintro e w3 ⟨rfl, rfl⟩
      go_wp2
      go_roundw
      case rel => exact ⟨.inr (.inr rfl), HW.out.trans N2.out⟩
      case measure => simp [intOf]
    · go_wp2_with fail
      refine (AW.out _ (HT.out.nw (HN2.out.trans HW.out))).mono ?_
      rintro e w6 ⟨rfl, n6⟩
      have N6 := Lib.hid n6
      clear n6
      go_wp2
      go_ret
      exact ⟨rfl, (HN2.out.trans HW.out).trans N6.out⟩
end Go.Proofs.YtoikjiojhlfgiaaGreatDoor.SeglogNone
