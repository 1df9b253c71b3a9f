/-
  What a disk that New did not make answers: nothing, and ErrNil.
-/
import Derived.Test.YtihagdadbeoeoaaDoorDiskQ
namespace Go.Proofs.YtihagdadbeoeoaaDoor
open Go Go.RowKit Go.Sort
set_option maxRecDepth 100000
set_option maxHeartbeats 800000

/-- No pointer, or one to a disk without a map. -/
def NoDisk (w : World) (v : Value) : Prop := v = .pointer none ∨ ∃ b, v = .pointer (some ⟨b, 0, none⟩) ∧ w.cell? ⟨b, 0, none⟩ = some (.map none)
theorem NoDisk.nw {w w' : World} {v : Value} (h : NoDisk w v) (hw : Nw w w') : NoDisk w' v := h.imp id fun ⟨b, h1, h2⟩ => ⟨b, h1, hw.cell h2⟩
theorem none_no {w : World} {v : Value} (h : NoDisk w v) : Calls Tryd.prog 49 #[v] w fun e w' => e = .returned (.bool true) ∧ w = w' := by
  rcases h with rfl | ⟨b, rfl, h⟩
  · exact none_nil w
  · exact none_zero w b h
theorem up_no {w : World} {v : Value} (h : NoDisk w v) : Calls Tryd.prog 60 #[v] w fun e w' => e = .returned (.int .i64 1) ∧ w = w' := by
  rcases h with rfl | ⟨b, rfl, h⟩
  · exact up_nil w
  · exact up_zero w b h
theorem List_no {w : World} {v : Value} (h : NoDisk w v) : Calls Tryd.prog 26 #[v] w fun e w' => e = .returned (.slice none 0 0) ∧ w = w' := by
  rcases h with rfl | ⟨b, rfl, h⟩
  · exact List_nil w
  · exact List_zero w b h
theorem operation_no {w : World} {v m d : Value} (h : NoDisk w v) : Calls Tryd.prog 50 #[v, m, d] w fun e w' => e = .returned (.int .i64 1) ∧ w = w' := by
  have H := Lib.hid h
  clear h
  go_enter Tryd.func50, Tryd.ntmps50
  go_wp2_with fail
  refine (up_no H.out).mono ?_
  rintro e w' ⟨rfl, rfl⟩
  go_wp2
  go_ret
  exact ⟨rfl, rfl⟩
theorem Append_no {w : World} {v : Value} (h : NoDisk w v) (n src : Value) (hn : ∃ s, n = .string s) (hs : ∃ a l c, src = .slice a l c) : Calls Tryd.prog 16 #[v, n, src] w fun e w' => e = .returned (.int .i64 1) ∧ Nw w w' := by
  obtain ⟨s, rfl⟩ := hn
  obtain ⟨a, l, c, rfl⟩ := hs
  have H := Lib.hid h
  have hp : ∃ p, v = .pointer p := by rcases h with rfl | ⟨b, rfl, -⟩ <;> exact ⟨_, rfl⟩
  obtain ⟨p, rfl⟩ := hp
  clear h
  go_enter Tryd.func16, Tryd.ntmps16
  go_wp2_with fail
  refine (operation_no (H.out.nw (((((Nw.refl w).alloc _).alloc _).alloc _)))).mono ?_
  rintro e w' ⟨rfl, rfl⟩
  go_wp2
  go_ret
  exact ⟨rfl, (((((Nw.refl w).alloc _).alloc _).alloc _))⟩
theorem Sync_no {w : World} {v : Value} (h : NoDisk w v) (n : Value) (hn : ∃ s, n = .string s) : Calls Tryd.prog 18 #[v, n] w fun e w' => e = .returned (.int .i64 1) ∧ Nw w w' := by
  obtain ⟨s, rfl⟩ := hn
  have H := Lib.hid h
  have hp : ∃ p, v = .pointer p := by rcases h with rfl | ⟨b, rfl, -⟩ <;> exact ⟨_, rfl⟩
  obtain ⟨p, rfl⟩ := hp
  clear h
  go_enter Tryd.func18, Tryd.ntmps18
  go_wp2_with fail
  refine (operation_no (H.out.nw (((Nw.refl w).alloc _).alloc _))).mono ?_
  rintro e w' ⟨rfl, rfl⟩
  go_wp2
  go_ret
  exact ⟨rfl, (((Nw.refl w).alloc _).alloc _)⟩
theorem Remove_no {w : World} {v : Value} (h : NoDisk w v) (n : Value) (hn : ∃ s, n = .string s) : Calls Tryd.prog 32 #[v, n] w fun e w' => e = .returned (.int .i64 1) ∧ Nw w w' := by
  obtain ⟨s, rfl⟩ := hn
  have H := Lib.hid h
  have hp : ∃ p, v = .pointer p := by rcases h with rfl | ⟨b, rfl, -⟩ <;> exact ⟨_, rfl⟩
  obtain ⟨p, rfl⟩ := hp
  clear h
  go_enter Tryd.func32, Tryd.ntmps32
  go_wp2_with fail
  refine (operation_no (H.out.nw (((Nw.refl w).alloc _).alloc _))).mono ?_
  rintro e w' ⟨rfl, rfl⟩
  go_wp2
  go_ret
  exact ⟨rfl, (((Nw.refl w).alloc _).alloc _)⟩
theorem Rename_no {w : World} {v : Value} (h : NoDisk w v) (n t : Value) (hn : ∃ s, n = .string s) (ht : ∃ s, t = .string s) : Calls Tryd.prog 19 #[v, n, t] w fun e w' => e = .returned (.int .i64 1) ∧ Nw w w' := by
  obtain ⟨s, rfl⟩ := hn
  obtain ⟨s2, rfl⟩ := ht
  have H := Lib.hid h
  have hp : ∃ p, v = .pointer p := by rcases h with rfl | ⟨b, rfl, -⟩ <;> exact ⟨_, rfl⟩
  obtain ⟨p, rfl⟩ := hp
  clear h
  go_enter Tryd.func19, Tryd.ntmps19
  go_wp2_with fail
  refine (operation_no (H.out.nw ((((Nw.refl w).alloc _).alloc _).alloc _))).mono ?_
  rintro e w' ⟨rfl, rfl⟩
  go_wp2
  go_ret
  exact ⟨rfl, ((((Nw.refl w).alloc _).alloc _).alloc _)⟩
theorem Cut_no {w : World} {v : Value} (h : NoDisk w v) (n : Value) (k : Int) (hn : ∃ s, n = .string s) : Calls Tryd.prog 34 #[v, n, .int .i64 k] w fun e w' => e = .returned (.int .i64 1) ∧ Nw w w' := by
  obtain ⟨s, rfl⟩ := hn
  have H := Lib.hid h
  have hp : ∃ p, v = .pointer p := by rcases h with rfl | ⟨b, rfl, -⟩ <;> exact ⟨_, rfl⟩
  obtain ⟨p, rfl⟩ := hp
  clear h
  go_enter Tryd.func34, Tryd.ntmps34
  go_wp2_with fail
  refine (operation_no (H.out.nw ((((Nw.refl w).alloc _).alloc _).alloc _))).mono ?_
  rintro e w' ⟨rfl, rfl⟩
  go_wp2
  go_ret
  exact ⟨rfl, ((((Nw.refl w).alloc _).alloc _).alloc _)⟩
theorem Arm_no {w : World} {v : Value} (h : NoDisk w v) (k : Int) : Calls Tryd.prog 15 #[v, .int .i64 k] w fun e w' => e = .returned (.tuple #[]) ∧ w = w' := by
  have H := Lib.hid h
  clear h
  go_enter Tryd.func15, Tryd.ntmps15
  go_wp2_with fail
  refine (none_no H.out).mono ?_
  rintro e w' ⟨rfl, rfl⟩
  go_wp2
  go_end0
  exact ⟨rfl, rfl⟩
theorem Crash_no {w : World} {v u : Value} (h : NoDisk w v) : Calls Tryd.prog 21 #[v, u] w fun e w' => e = .returned (.tuple #[]) ∧ w = w' := by
  have H := Lib.hid h
  clear h
  go_enter Tryd.func21, Tryd.ntmps21
  go_wp2_with fail
  refine (none_no H.out).mono ?_
  rintro e w' ⟨rfl, rfl⟩
  go_wp2
  exact bodyPost_ret (v := .tuple #[]) (results_none rfl _ _ _) rfl ⟨rfl, rfl⟩
theorem Down_no {w : World} {v : Value} (h : NoDisk w v) : Calls Tryd.prog 20 #[v] w fun e w' => e = .returned (.bool false) ∧ w = w' := by
  have H := Lib.hid h
  clear h
  go_enter Tryd.func20, Tryd.ntmps20
  go_wp2_with fail
  refine (none_no H.out).mono ?_
  rintro e w' ⟨rfl, rfl⟩
  go_wp2
  go_ret
  exact ⟨rfl, rfl⟩
theorem Read_no {w : World} {v n : Value} (h : NoDisk w v) : Calls Tryd.prog 22 #[v, n] w fun e w' => e = .returned (.tuple #[.slice none 0 0, .int .i64 1]) ∧ w = w' := by
  have H := Lib.hid h
  clear h
  go_enter Tryd.func22, Tryd.ntmps22
  go_wp2_with fail
  refine (up_no H.out).mono ?_
  rintro e w' ⟨rfl, rfl⟩
  go_wp2
  go_ret2
  exact ⟨rfl, rfl⟩
theorem of_no {w : World} {v n : Value} (h : NoDisk w v) : Calls Tryd.prog 62 #[v, n] w fun e w' => e = .returned (.agg #[.slice none 0 0, .int .i64 0]) ∧ Nw w w' := by
  have H := Lib.hid h
  clear h
  go_enter Tryd.func62, Tryd.ntmps62
  go_wp2_with fail
  refine (none_no (H.out.nw ((Nw.refl w).alloc _))).mono ?_
  rintro e w' ⟨rfl, rfl⟩
  go_wp2
  refine bodyPost_ret (v := .agg #[.slice none 0 0, .int .i64 0]) (by simp [results, Tryd.results62, go_sem]) rfl ⟨rfl, (Nw.refl w).alloc _⟩
theorem Size_no {w : World} {v n : Value} (h : NoDisk w v) : Calls Tryd.prog 41 #[v, n] w fun e w' => e = .returned (.int .i64 0) ∧ Nw w w' := by
  have H := Lib.hid h
  clear h
  go_enter Tryd.func41, Tryd.ntmps41
  go_wp2_with fail
  refine (of_no H.out).mono ?_
  rintro e w' ⟨rfl, n1⟩
  have q := fieldBytes w' none 0 0 0
  have N1 := Lib.hid n1
  clear n1
  go_wp2
  go_ret
  exact ⟨rfl, N1.out⟩
theorem Synced_no {w : World} {v n : Value} (h : NoDisk w v) : Calls Tryd.prog 24 #[v, n] w fun e w' => e = .returned (.int .i64 0) ∧ Nw w w' := by
  have H := Lib.hid h
  clear h
  go_enter Tryd.func24, Tryd.ntmps24
  go_wp2_with fail
  refine (of_no H.out).mono ?_
  rintro e w' ⟨rfl, n1⟩
  have q := fieldSynced w' none 0 0 0
  have N1 := Lib.hid n1
  clear n1
  go_wp2
  go_ret
  exact ⟨rfl, N1.out⟩
theorem Used_no {w : World} {v : Value} (h : NoDisk w v) : Calls Tryd.prog 42 #[v] w fun e w' => e = .returned (.int .i64 0) ∧ w = w' := by
  have H := Lib.hid h
  clear h
  go_enter Tryd.func42, Tryd.ntmps42
  go_wp2_with fail
  refine (List_no H.out).mono ?_
  rintro e w' ⟨rfl, rfl⟩
  go_wp2
  refine wp_loop_rounds 1 ?_
  rw [rounds_succ]
  go_wp2
  go_ret
  exact ⟨rfl, rfl⟩
end Go.Proofs.YtihagdadbeoeoaaDoor
