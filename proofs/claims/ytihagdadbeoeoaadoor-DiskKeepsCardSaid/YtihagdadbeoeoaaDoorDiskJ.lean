/-
  Append, whole.
-/
import Derived.Test.YtihagdadbeoeoaaDoorDiskI
namespace Go.Proofs.YtihagdadbeoeoaaDoor
open Go Go.RowKit Go.Sort
set_option maxRecDepth 100000
set_option maxHeartbeats 800000

theorem DiskIn.out {S : Nat → Prop} {w : World} {b : Nat} {d : Dsk} (h : DiskIn w b d S) {x : Nat} (hx : w.heap.size ≤ x) : ¬ S x := fun hs => by
  have := h.lt x hs; omega

theorem en51 : Enters Tryd.prog 51 := enters_of Tryd.func51 (by kernel_rfl) (by kernel_rfl)
theorem en53 : Enters Tryd.prog 53 := enters_of Tryd.func53 (by kernel_rfl) (by kernel_rfl)

/-- What a call that may turn the disk leaves. -/
def Turns (S : Nat → Prop) (w : World) (b : Nat) (r : Dsk × Int) (e : Ending) (w' : World) : Prop := e = .returned (.int .i64 r.2) ∧ DiskTo S w w' b r.1

theorem Append_ok {w : World} {b : Nat} {d : Dsk} {S : Nat → Prop} (h : DiskIn w b d S) (n : Str) (l : List UInt8) (src : Value) (hs : Bs w src l) (hsep : l ≠ [] → ∀ g, src.ownBlock = some g → ¬ S g)
    (hnl : n.length ≤ 9223372036854775807) (hll : l.length ≤ 140737488355328) :
    Calls Tryd.prog 16 #[.pointer (some ⟨b, 0, none⟩), .string ⟨n.toArray⟩, src] w (Turns S w b (d.append n l)) := by
  obtain ⟨sa, sc, rfl, -⟩ := hs.len
  have hwB : Nw w (((w.alloc (.cells #[.pointer (some ⟨b, 0, none⟩)] 25)).alloc (.cells #[.string ⟨n.toArray⟩] 9)).alloc (.cells #[.slice sa l.length sc] 29)) := (((Nw.refl w).alloc _).alloc _).alloc _
  have hB := h.nw hwB
  have f1 : ¬ S w.heap.size := h.out (Nat.le_refl _)
  have f2 : ¬ S (w.heap.size + 1) := h.out (by omega)
  have f3 : ¬ S (w.heap.size + 1 + 1) := h.out (by omega)
  have c1 : (((w.alloc (.cells #[.pointer (some ⟨b, 0, none⟩)] 25)).alloc (.cells #[.string ⟨n.toArray⟩] 9)).alloc (.cells #[.slice sa l.length sc] 29)).cell? ⟨w.heap.size, 0, none⟩ = some (.pointer (some ⟨b, 0, none⟩)) := by
    simp [go_sem]
  have c2 : (((w.alloc (.cells #[.pointer (some ⟨b, 0, none⟩)] 25)).alloc (.cells #[.string ⟨n.toArray⟩] 9)).alloc (.cells #[.slice sa l.length sc] 29)).cell? ⟨w.heap.size + 1, 0, none⟩ = some (.string ⟨n.toArray⟩) := by
    simp [go_sem]
  have c3 : (((w.alloc (.cells #[.pointer (some ⟨b, 0, none⟩)] 25)).alloc (.cells #[.string ⟨n.toArray⟩] 9)).alloc (.cells #[.slice sa l.length sc] 29)).cell? ⟨w.heap.size + 1 + 1, 0, none⟩ = some (.slice sa l.length sc) := by
    simp [go_sem]
  have H := operation_ok hB 51 53 #[.pointer (some ⟨w.heap.size + 1, 0, none⟩), .pointer (some ⟨w.heap.size, 0, none⟩), .pointer (some ⟨w.heap.size + 1 + 1, 0, none⟩)]
    #[.pointer (some ⟨w.heap.size, 0, none⟩), .pointer (some ⟨w.heap.size + 1, 0, none⟩), .pointer (some ⟨w.heap.size + 1 + 1, 0, none⟩)] (d.mayAppend n l) (fun L => setF L n ⟨(fileOf L n).bytes ++ l, (fileOf L n).synced⟩) en51 en53
    (fun _ => Append1_ok hB n l _ _ _ _ c2 c1 c3 (hs.nw hwB) hnl hll)
    (fun hm _ w1 ho hd => Append2_ok hd n l _ _ _ _ (ho.cell c2 f2) (ho.cell c1 f1) (ho.cell c3 f3) ((hs.nw hwB).keep ho hsep) hsep f2 f1 f3 hm)
  have HH := Lib.hid H
  have HW := Lib.hid hwB
  clear H hwB hB h hs hsep c1 c2 c3 f1 f2 f3
  go_enter Tryd.func16, Tryd.ntmps16
  go_wp2_with (go_at_call 50; refine HH.out.mono ?_)
  rintro e w2 ⟨rfl, hw2⟩
  go_wp2
  go_ret
  exact ⟨rfl, DiskTo.trans HW.out.only hw2⟩
end Go.Proofs.YtihagdadbeoeoaaDoor
