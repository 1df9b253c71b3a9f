/-
  Sync, Remove, Rename, Cut, Arm and New, whole.
-/
import Derived.Test.YtihagdadbeoeoaaDoorDiskO
namespace Go.Proofs.YtihagdadbeoeoaaDoor
open Go Go.RowKit Go.Sort
set_option maxRecDepth 100000
set_option maxHeartbeats 800000

theorem there_ticked (d : Dsk) (n : Str) : d.ticked.there n = d.there n := rfl

theorem Sync_ok {w : World} {b : Nat} {d : Dsk} {S : Nat → Prop} (h : DiskIn w b d S) (n : Str) :
    Calls Tryd.prog 18 #[.pointer (some ⟨b, 0, none⟩), .string ⟨n.toArray⟩] w (Turns S w b (d.sync n)) := by
  have hwB : Nw w ((w.alloc (.cells #[.pointer (some ⟨b, 0, none⟩)] 25)).alloc (.cells #[.string ⟨n.toArray⟩] 9)) := ((Nw.refl w).alloc _).alloc _
  have hB := h.nw hwB
  have f1 : ¬ S w.heap.size := h.out (Nat.le_refl _)
  have f2 : ¬ S (w.heap.size + 1) := h.out (by omega)
  have c1 : ((w.alloc (.cells #[.pointer (some ⟨b, 0, none⟩)] 25)).alloc (.cells #[.string ⟨n.toArray⟩] 9)).cell? ⟨w.heap.size, 0, none⟩ = some (.pointer (some ⟨b, 0, none⟩)) := by simp [go_sem]
  have c2 : ((w.alloc (.cells #[.pointer (some ⟨b, 0, none⟩)] 25)).alloc (.cells #[.string ⟨n.toArray⟩] 9)).cell? ⟨w.heap.size + 1, 0, none⟩ = some (.string ⟨n.toArray⟩) := by simp [go_sem]
  have H := operation_ok hB 54 56 #[.pointer (some ⟨w.heap.size, 0, none⟩), .pointer (some ⟨w.heap.size + 1, 0, none⟩)]
    #[.pointer (some ⟨w.heap.size, 0, none⟩), .pointer (some ⟨w.heap.size + 1, 0, none⟩)] (d.there n) (fun L => setF L n ⟨(fileOf L n).bytes, (fileOf L n).bytes.length⟩)
    (enters_of Tryd.func54 (by kernel_rfl) (by kernel_rfl)) (enters_of Tryd.func56 (by kernel_rfl) (by kernel_rfl))
    (fun _ => Sync1_ok hB n _ _ c2 c1) (fun hm _ w1 ho hd => Sync2_ok hd n _ _ (ho.cell c2 f2) (ho.cell c1 f1) hm)
  have HH := Lib.hid H
  have HW := Lib.hid hwB
  clear H hwB hB h c1 c2 f1 f2
  go_enter Tryd.func18, Tryd.ntmps18
  go_wp2_with (go_at_call 50; refine HH.out.mono ?_)
  rintro e w2 ⟨rfl, hw2⟩
  go_wp2
  go_ret
  exact ⟨rfl, DiskTo.trans HW.out.only hw2⟩

theorem Remove_ok {w : World} {b : Nat} {d : Dsk} {S : Nat → Prop} (h : DiskIn w b d S) (n : Str) :
    Calls Tryd.prog 32 #[.pointer (some ⟨b, 0, none⟩), .string ⟨n.toArray⟩] w (Turns S w b (d.remove n)) := by
  have hwB : Nw w ((w.alloc (.cells #[.pointer (some ⟨b, 0, none⟩)] 25)).alloc (.cells #[.string ⟨n.toArray⟩] 9)) := ((Nw.refl w).alloc _).alloc _
  have hB := h.nw hwB
  have f1 : ¬ S w.heap.size := h.out (Nat.le_refl _)
  have f2 : ¬ S (w.heap.size + 1) := h.out (by omega)
  have c1 : ((w.alloc (.cells #[.pointer (some ⟨b, 0, none⟩)] 25)).alloc (.cells #[.string ⟨n.toArray⟩] 9)).cell? ⟨w.heap.size, 0, none⟩ = some (.pointer (some ⟨b, 0, none⟩)) := by simp [go_sem]
  have c2 : ((w.alloc (.cells #[.pointer (some ⟨b, 0, none⟩)] 25)).alloc (.cells #[.string ⟨n.toArray⟩] 9)).cell? ⟨w.heap.size + 1, 0, none⟩ = some (.string ⟨n.toArray⟩) := by simp [go_sem]
  have H := operation_ok hB 70 71 #[.pointer (some ⟨w.heap.size, 0, none⟩), .pointer (some ⟨w.heap.size + 1, 0, none⟩)]
    #[.pointer (some ⟨w.heap.size, 0, none⟩), .pointer (some ⟨w.heap.size + 1, 0, none⟩)] (d.there n) (fun L => delF L n)
    (enters_of Tryd.func70 (by kernel_rfl) (by kernel_rfl)) (enters_of Tryd.func71 (by kernel_rfl) (by kernel_rfl))
    (fun _ => Remove1_ok hB n _ _ c2 c1) (fun hm _ w1 ho hd => Remove2_ok hd n _ _ (ho.cell c2 f2) (ho.cell c1 f1) hm)
  have HH := Lib.hid H
  have HW := Lib.hid hwB
  clear H hwB hB h c1 c2 f1 f2
  go_enter Tryd.func32, Tryd.ntmps32
  go_wp2_with (go_at_call 50; refine HH.out.mono ?_)
  rintro e w2 ⟨rfl, hw2⟩
  go_wp2
  go_ret
  exact ⟨rfl, DiskTo.trans HW.out.only hw2⟩

theorem Rename_ok {w : World} {b : Nat} {d : Dsk} {S : Nat → Prop} (h : DiskIn w b d S) (n t : Str) (htl : t.length ≤ 9223372036854775807) :
    Calls Tryd.prog 19 #[.pointer (some ⟨b, 0, none⟩), .string ⟨n.toArray⟩, .string ⟨t.toArray⟩] w (Turns S w b (d.rename n t)) := by
  have hwB : Nw w (((w.alloc (.cells #[.pointer (some ⟨b, 0, none⟩)] 25)).alloc (.cells #[.string ⟨n.toArray⟩] 9)).alloc (.cells #[.string ⟨t.toArray⟩] 9)) := (((Nw.refl w).alloc _).alloc _).alloc _
  have hB := h.nw hwB
  have f1 : ¬ S w.heap.size := h.out (Nat.le_refl _)
  have f2 : ¬ S (w.heap.size + 1) := h.out (by omega)
  have f3 : ¬ S (w.heap.size + 1 + 1) := h.out (by omega)
  have c1 : (((w.alloc (.cells #[.pointer (some ⟨b, 0, none⟩)] 25)).alloc (.cells #[.string ⟨n.toArray⟩] 9)).alloc (.cells #[.string ⟨t.toArray⟩] 9)).cell? ⟨w.heap.size, 0, none⟩ = some (.pointer (some ⟨b, 0, none⟩)) := by simp [go_sem]
  have c2 : (((w.alloc (.cells #[.pointer (some ⟨b, 0, none⟩)] 25)).alloc (.cells #[.string ⟨n.toArray⟩] 9)).alloc (.cells #[.string ⟨t.toArray⟩] 9)).cell? ⟨w.heap.size + 1, 0, none⟩ = some (.string ⟨n.toArray⟩) := by simp [go_sem]
  have c3 : (((w.alloc (.cells #[.pointer (some ⟨b, 0, none⟩)] 25)).alloc (.cells #[.string ⟨n.toArray⟩] 9)).alloc (.cells #[.string ⟨t.toArray⟩] 9)).cell? ⟨w.heap.size + 1 + 1, 0, none⟩ = some (.string ⟨t.toArray⟩) := by simp [go_sem]
  have H := operation_ok hB 57 58 #[.pointer (some ⟨w.heap.size + 1 + 1, 0, none⟩), .pointer (some ⟨w.heap.size, 0, none⟩), .pointer (some ⟨w.heap.size + 1, 0, none⟩)]
    #[.pointer (some ⟨w.heap.size, 0, none⟩), .pointer (some ⟨w.heap.size + 1, 0, none⟩), .pointer (some ⟨w.heap.size + 1 + 1, 0, none⟩)] (d.mayRename n t) (fun L => setF (delF L n) t (fileOf L n))
    (enters_of Tryd.func57 (by kernel_rfl) (by kernel_rfl)) (enters_of Tryd.func58 (by kernel_rfl) (by kernel_rfl))
    (fun _ => Rename1_ok hB n t _ _ _ c2 c1 c3 htl) (fun hm _ w1 ho hd => Rename2_ok hd n t _ _ _ (ho.cell c2 f2) (ho.cell c1 f1) (ho.cell c3 f3) f2 f1 f3 hm)
  have HH := Lib.hid H
  have HW := Lib.hid hwB
  clear H hwB hB h c1 c2 c3 f1 f2 f3
  go_enter Tryd.func19, Tryd.ntmps19
  go_wp2_with (go_at_call 50; refine HH.out.mono ?_)
  rintro e w2 ⟨rfl, hw2⟩
  go_wp2
  go_ret
  exact ⟨rfl, DiskTo.trans HW.out.only hw2⟩

theorem Cut_ok {w : World} {b : Nat} {d : Dsk} {S : Nat → Prop} (h : DiskIn w b d S) (n : Str) (k : Int) :
    Calls Tryd.prog 34 #[.pointer (some ⟨b, 0, none⟩), .string ⟨n.toArray⟩, .int .i64 k] w (Turns S w b (d.cut n k)) := by
  have hwB : Nw w (((w.alloc (.cells #[.pointer (some ⟨b, 0, none⟩)] 25)).alloc (.cells #[.string ⟨n.toArray⟩] 9)).alloc (.cells #[.int .i64 k] 3)) := (((Nw.refl w).alloc _).alloc _).alloc _
  have hB := h.nw hwB
  have f1 : ¬ S w.heap.size := h.out (Nat.le_refl _)
  have f2 : ¬ S (w.heap.size + 1) := h.out (by omega)
  have f3 : ¬ S (w.heap.size + 1 + 1) := h.out (by omega)
  have c1 : (((w.alloc (.cells #[.pointer (some ⟨b, 0, none⟩)] 25)).alloc (.cells #[.string ⟨n.toArray⟩] 9)).alloc (.cells #[.int .i64 k] 3)).cell? ⟨w.heap.size, 0, none⟩ = some (.pointer (some ⟨b, 0, none⟩)) := by simp [go_sem]
  have c2 : (((w.alloc (.cells #[.pointer (some ⟨b, 0, none⟩)] 25)).alloc (.cells #[.string ⟨n.toArray⟩] 9)).alloc (.cells #[.int .i64 k] 3)).cell? ⟨w.heap.size + 1, 0, none⟩ = some (.string ⟨n.toArray⟩) := by simp [go_sem]
  have c3 : (((w.alloc (.cells #[.pointer (some ⟨b, 0, none⟩)] 25)).alloc (.cells #[.string ⟨n.toArray⟩] 9)).alloc (.cells #[.int .i64 k] 3)).cell? ⟨w.heap.size + 1 + 1, 0, none⟩ = some (.int .i64 k) := by simp [go_sem]
  have H := operation_ok hB 72 73 #[.pointer (some ⟨w.heap.size, 0, none⟩), .pointer (some ⟨w.heap.size + 1, 0, none⟩), .pointer (some ⟨w.heap.size + 1 + 1, 0, none⟩)]
    #[.pointer (some ⟨w.heap.size, 0, none⟩), .pointer (some ⟨w.heap.size + 1, 0, none⟩), .pointer (some ⟨w.heap.size + 1 + 1, 0, none⟩)] (d.mayCut n k) (fun L => setF L n ⟨(fileOf L n).bytes.take k.toNat, k.toNat⟩)
    (enters_of Tryd.func72 (by kernel_rfl) (by kernel_rfl)) (enters_of Tryd.func73 (by kernel_rfl) (by kernel_rfl))
    (fun _ => Cut1_ok hB n k _ _ _ c2 c1 c3) (fun hm _ w1 ho hd => Cut2_ok hd n k _ _ _ (ho.cell c2 f2) (ho.cell c1 f1) (ho.cell c3 f3) hm)
  have HH := Lib.hid H
  have HW := Lib.hid hwB
  clear H hwB hB h c1 c2 c3 f1 f2 f3
  go_enter Tryd.func34, Tryd.ntmps34
  go_wp2_with (go_at_call 50; refine HH.out.mono ?_)
  rintro e w2 ⟨rfl, hw2⟩
  go_wp2
  go_ret
  exact ⟨rfl, DiskTo.trans HW.out.only hw2⟩

/-- What a call that hands nothing back leaves. -/
def TurnsU (S : Nat → Prop) (w : World) (b : Nat) (d : Dsk) (e : Ending) (w' : World) : Prop := e = .returned (.tuple #[]) ∧ DiskTo S w w' b d

theorem Dsk.Ok.armed {d : Dsk} (ok : d.Ok) (k : Int) (hk : k ≤ 9223372036854775807) : (d.armed k).Ok := by
  unfold Dsk.armed
  split
  · exact ok
  · exact ⟨ok.most0, ok.most1, by show -1 ≤ max k 0; omega, by show max k 0 ≤ _; omega, ok.names, ok.named, ok.few, ok.used, ok.synced⟩

theorem Arm_ok {w : World} {b : Nat} {d : Dsk} {S : Nat → Prop} (h : DiskIn w b d S) (k : Int) (hk : k ≤ 9223372036854775807) :
    Calls Tryd.prog 15 #[.pointer (some ⟨b, 0, none⟩), .int .i64 k] w (TurnsU S w b (d.armed k)) := by
  obtain ⟨m, c0, c1, c2, c3, cf⟩ : ∃ m, w.cell? ⟨b, 0, none⟩ = some (.map (some m)) ∧ w.cell? ⟨b, 1, none⟩ = some (.int .i64 d.most) ∧ w.cell? ⟨b, 2, none⟩ = some (.int .i64 d.arm) ∧ w.cell? ⟨b, 3, none⟩ = some (.bool d.down) ∧ ∀ i, w.frozen? ⟨b, i, none⟩ = false := by
    obtain ⟨m, fs, hD, -⟩ := h
    exact ⟨m, hdr_cells hD.hdr⟩
  have hok := h.ok.armed k hk
  cases hdn : d.down
  case true =>
    have r : Hid (d.armed k = d) := by show d.armed k = d; simp [Dsk.armed, hdn]
    rw [hdn] at c3
    have H := Lib.hid h
    clear h hok hdn c1 c2
    go_enter Tryd.func15, Tryd.ntmps15
    go_wp2_with (go_at_call 49; refine (none_ok _ b m c0).mono ?_; rintro e w' ⟨rfl, rfl⟩)
    refine bodyPost_end (results_none rfl _ _ _) rfl ⟨rfl, ?_⟩
    rw [r.out]; exact DiskTo.refl H.out (Nw.refl _)
  case false =>
    have r : Hid (d.armed k = { d with arm := max k 0 }) := by show d.armed k = _; simp [Dsk.armed, hdn]
    rw [hdn] at c3
    have H := Lib.hid h
    have HO := Lib.hid hok
    have hb := h.own_b
    clear h hok hdn c1
    have hcase : 0 ≤ k ∨ k < 0 := by omega
    rcases hcase with hs | hs
    all_goals
      go_enter Tryd.func15, Tryd.ntmps15
      go_wp2_with (go_at_call 49; refine (none_ok _ b m c0).mono ?_; rintro e w' ⟨rfl, rfl⟩)
      refine bodyPost_end (results_none rfl _ _ _) rfl ⟨rfl, ?_⟩
      have hok := HO.out
      rw [r.out] at hok ⊢
      refine ⟨S, H.out.head (d' := { d with arm := max k 0 }) (fun m0 hm0 => ?_) (fun j hj _ => Below.heap_setCell _ _ _ _ hj) rfl hok, (Only.refl w).setCell (fun _ => hb) _, fun j hj => .inl hj⟩
      rw [heap_setCell_at hm0 2 _]
      have : max k 0 = (if 0 ≤ k then k else 0) := by split <;> omega
      simp [this]
      try omega

/-- A disk that is new. -/
def newDsk (most : Int) : Dsk := ⟨most, [], -1, false⟩
def NewPost (w : World) (most : Int) (e : Ending) (w' : World) : Prop := ∃ b S, e = .returned (.tuple #[.pointer (some ⟨b, 0, none⟩), .int .i64 0]) ∧ DiskIn w' b (newDsk most) S ∧ Nw w w' ∧ ∀ k, S k → w.heap.size ≤ k

theorem New_ok (most : Int) (w : World) (h0 : 0 ≤ most) (h1 : most ≤ 16777216) : Calls Tryd.prog 13 #[.int .i64 most] w (NewPost w most) := by
  have hmm := @run_makeMap Tryd.prog
  go_enter Tryd.func13, Tryd.ntmps13
  go_wp2
  go_ret2
  refine ⟨w.heap.size + 1, fun k => k ∈ dskBlocks (w.heap.size + 1) w.heap.size [], rfl, ⟨w.heap.size, [], ⟨?_, ⟨0, ?_, by simp⟩, rfl, by simp, by simp [dskBlocks], by simp, ⟨h0, h1, by simp [newDsk], by simp [newDsk], by simp [newDsk, namesF], by simp [newDsk, namesF], by simp [newDsk], by simpa [newDsk, usedF] using h0, by simp [newDsk]⟩⟩, fun k => Iff.rfl⟩, ?_, ?_⟩
  · have := heap_alloc_new (w.alloc (.map #[] 0)) (.cells #[.map (some w.heap.size), .int .i64 most, .int .i64 (-1), .bool false] 69)
    rw [World.size_alloc] at this
    exact this
  · rw [heap_alloc_old _ _ (by simp)]; exact heap_alloc_new w _
  · exact ((Nw.refl w).alloc _).alloc _
  · intro k hk; simp [dskBlocks] at hk; omega
theorem New_no (most : Int) (w : World) (h : most < 0 ∨ 16777216 < most) : Calls Tryd.prog 13 #[.int .i64 most] w fun e w' => e = .returned (.tuple #[.pointer none, .int .i64 2]) ∧ w = w' := by
  have hc : most < 0 ∨ (0 ≤ most ∧ 16777216 < most) := by omega
  rcases hc with h | ⟨h1, h⟩
  all_goals
    go_enter Tryd.func13, Tryd.ntmps13
    go_wp2
    go_ret2
    exact ⟨rfl, rfl⟩
end Go.Proofs.YtihagdadbeoeoaaDoor
