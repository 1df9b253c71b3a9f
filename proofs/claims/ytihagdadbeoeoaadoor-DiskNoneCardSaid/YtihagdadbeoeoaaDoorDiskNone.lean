/-
  amanuensislaw02.DiskNone: a disk that New did not make answers nothing, and ErrNil.
-/
import Derived.Test.YtihagdadbeoeoaaDoorNoDisk
import Derived.Test.YtihagdadbeoeoaaDoorAwake
import Derived.Test.YtihagdadbeoeoaaDoorClose
namespace Go.Proofs.YtihagdadbeoeoaaDoor.DiskNone
open Go Go.RowKit Go.Sort
set_option maxRecDepth 100000
set_option maxHeartbeats 1600000

theorem walk (w : World) (v2 : Value) (name : Str) (n : Int) (b : List UInt8) (_hname : name.length ≤ 9223372036854775807) (_hn : -9223372036854775808 ≤ n ∧ n ≤ 9223372036854775807) (h2 : Bs w v2 b) :
    Calls Tryd.prog 7 #[.string ⟨name.toArray⟩, .int .i64 n, v2] w fun e w' => e = .returned (.bool true) ∧ Nw w w' := by
  obtain ⟨ba, bc, rfl, -⟩ := h2.len
  clear h2
  have AW := Lib.hid (fun w => awake_ok w)
  go_enter Tryd.func7, Tryd.ntmps7
  go_wp2
  generalize hW2 : (w.alloc (.cells #[.map none, .int .i64 0, .int .i64 0, .bool false] 69)).alloc (.cells #[.pointer none, .pointer (some ⟨w.heap.size, 0, none⟩)] 25) = W2
  have HN2 : Hid (Nw w W2) := Lib.hid (by rw [← hW2]; exact ((Nw.refl w).alloc _).alloc _)
  have HE0 : Hid (W2.cell? ⟨w.heap.size + 1, 0, none⟩ = some (.pointer none)) := Lib.hid (by rw [← hW2]; clear hW2; go_simp)
  have HE1 : Hid (W2.cell? ⟨w.heap.size + 1, 1, none⟩ = some (.pointer (some ⟨w.heap.size, 0, none⟩))) := Lib.hid (by rw [← hW2]; clear hW2; go_simp)
  have HE2 : Hid (W2.cell? ⟨w.heap.size, 0, none⟩ = some (.map none)) := Lib.hid (by rw [← hW2]; clear hW2; go_simp)
  clear hW2
  go_loopw [17] (fun i wr => (i = .int .i64 0 ∨ i = .int .i64 1 ∨ i = .int .i64 2) ∧ Nw W2 wr) (fun i _ => 2 - (intOf i).toNat)
  case atStart => exact ⟨.inl rfl, Nw.refl _⟩
  case round =>
    obtain ⟨hi, hw⟩ := hrel
    have HW := Lib.hid hw
    clear hw
    rcases hi with rfl | rfl | rfl
    · have ND : Hid (NoDisk wr (.pointer none)) := Lib.hid (.inl rfl)
      have e0 := HW.out.cell HE0.out
      go_wp2_with fail
      refine (Arm_no ND.out _).mono ?_
      rintro e w1 ⟨rfl, rfl⟩
      go_wp2_with fail
      refine (Crash_no (ND.out.nw ((Nw.refl _).alloc _))).mono ?_
      rintro e w1 ⟨rfl, rfl⟩
      have N1 := Lib.hid ((Nw.refl wr).alloc (.cells #[.int .i64 n] 3))
      go_wp2_with fail
      refine (Read_no (ND.out.nw N1.out)).mono ?_
      rintro e w1 ⟨rfl, rfl⟩
      go_wp2_with fail
      refine (Append_no (ND.out.nw N1.out) _ _ ⟨_, rfl⟩ ⟨_, _, _, rfl⟩).mono ?_
      rintro e w2 ⟨rfl, n2⟩
      have N2 := Lib.hid (N1.out.trans n2)
      clear n2
      go_wp2_with fail
      refine (Sync_no (ND.out.nw N2.out) _ ⟨_, rfl⟩).mono ?_
      rintro e w3 ⟨rfl, n3⟩
      have N3 := Lib.hid (N2.out.trans n3)
      clear n3
      go_wp2_with fail
      refine (Rename_no (ND.out.nw N3.out) _ _ ⟨_, rfl⟩ ⟨_, rfl⟩).mono ?_
      rintro e w4 ⟨rfl, n4⟩
      have N4 := Lib.hid (N3.out.trans n4)
      clear n4
      go_wp2_with fail
      refine (Remove_no (ND.out.nw N4.out) _ ⟨_, rfl⟩).mono ?_
      rintro e w5 ⟨rfl, n5⟩
      have N5 := Lib.hid (N4.out.trans n5)
      clear n5
      go_wp2_with fail
      refine (Cut_no (ND.out.nw N5.out) _ _ ⟨_, rfl⟩).mono ?_
      rintro e w6 ⟨rfl, n6⟩
      have N6 := Lib.hid (N5.out.trans n6)
      clear n6
      go_wp2_with fail
      refine (Down_no (ND.out.nw N6.out)).mono ?_
      rintro e w7 ⟨rfl, rfl⟩
      go_wp2_with fail
      refine (Size_no (ND.out.nw N6.out)).mono ?_
      rintro e w7 ⟨rfl, n7⟩
      have N7 := Lib.hid (N6.out.trans n7)
      clear n7
      go_wp2_with fail
      refine (Synced_no (ND.out.nw N7.out)).mono ?_
      rintro e w8 ⟨rfl, n8⟩
      have N8 := Lib.hid (N7.out.trans n8)
      clear n8
      go_wp2_with fail
      refine (Used_no (ND.out.nw N8.out)).mono ?_
      rintro e w9 ⟨rfl, rfl⟩
      go_wp2_with fail
      refine (List_no (ND.out.nw N8.out)).mono ?_
      rintro e w9 ⟨rfl, rfl⟩
      go_wp2
      go_roundw
      case rel => exact ⟨.inr (.inl rfl), HW.out.trans N8.out⟩
      case measure => simp [intOf]
    · have ND : Hid (NoDisk wr (.pointer (some ⟨w.heap.size, 0, none⟩))) := Lib.hid (.inr ⟨_, rfl, HW.out.cell HE2.out⟩)
      have e1 := HW.out.cell HE1.out
      go_wp2_with fail
      refine (Arm_no ND.out _).mono ?_
      rintro e w1 ⟨rfl, rfl⟩
      go_wp2_with fail
      refine (Crash_no (ND.out.nw ((Nw.refl _).alloc _))).mono ?_
      rintro e w1 ⟨rfl, rfl⟩
      have N1 := Lib.hid ((Nw.refl wr).alloc (.cells #[.int .i64 n] 3))
      go_wp2_with fail
      refine (Read_no (ND.out.nw N1.out)).mono ?_
      rintro e w1 ⟨rfl, rfl⟩
      go_wp2_with fail
      refine (Append_no (ND.out.nw N1.out) _ _ ⟨_, rfl⟩ ⟨_, _, _, rfl⟩).mono ?_
      rintro e w2 ⟨rfl, n2⟩
      have N2 := Lib.hid (N1.out.trans n2)
      clear n2
      go_wp2_with fail
      refine (Sync_no (ND.out.nw N2.out) _ ⟨_, rfl⟩).mono ?_
      rintro e w3 ⟨rfl, n3⟩
      have N3 := Lib.hid (N2.out.trans n3)
      clear n3
      go_wp2_with fail
      refine (Rename_no (ND.out.nw N3.out) _ _ ⟨_, rfl⟩ ⟨_, rfl⟩).mono ?_
      rintro e w4 ⟨rfl, n4⟩
      have N4 := Lib.hid (N3.out.trans n4)
      clear n4
      go_wp2_with fail
      refine (Remove_no (ND.out.nw N4.out) _ ⟨_, rfl⟩).mono ?_
      rintro e w5 ⟨rfl, n5⟩
      have N5 := Lib.hid (N4.out.trans n5)
      clear n5
      go_wp2_with fail
      refine (Cut_no (ND.out.nw N5.out) _ _ ⟨_, rfl⟩).mono ?_
      rintro e w6 ⟨rfl, n6⟩
      have N6 := Lib.hid (N5.out.trans n6)
      clear n6
      go_wp2_with fail
      refine (Down_no (ND.out.nw N6.out)).mono ?_
      rintro e w7 ⟨rfl, rfl⟩
      go_wp2_with fail
      refine (Size_no (ND.out.nw N6.out)).mono ?_
      rintro e w7 ⟨rfl, n7⟩
      have N7 := Lib.hid (N6.out.trans n7)
      clear n7
      go_wp2_with fail
      refine (Synced_no (ND.out.nw N7.out)).mono ?_
      rintro e w8 ⟨rfl, n8⟩
      have N8 := Lib.hid (N7.out.trans n8)
      clear n8
      go_wp2_with fail
      refine (Used_no (ND.out.nw N8.out)).mono ?_
      rintro e w9 ⟨rfl, rfl⟩
      go_wp2_with fail
      refine (List_no (ND.out.nw N8.out)).mono ?_
      rintro e w9 ⟨rfl, rfl⟩
      go_wp2
      go_roundw
      case rel => exact ⟨.inr (.inr rfl), HW.out.trans N8.out⟩
      case measure => simp [intOf]
    · go_wp2_with fail
      refine (AW.out _).mono ?_
      rintro e w6 ⟨rfl, n6⟩
      have N6 := Lib.hid n6
      clear n6
      go_wp2
      go_ret
      exact ⟨rfl, (HN2.out.trans HW.out).trans N6.out⟩
end Go.Proofs.YtihagdadbeoeoaaDoor.DiskNone
