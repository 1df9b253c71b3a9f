/-
  The disk's functions that only read.
-/
import Derived.Test.YtihagdadbeoeoaaDoorDiskD
namespace Go.Proofs.YtihagdadbeoeoaaDoor
open Go Go.RowKit Go.Sort
set_option maxRecDepth 100000
set_option maxHeartbeats 400000

/-! ### Plain -/
theorem mem_namesF {L : List (Str × DFile)} {n : Str} {f : DFile} (h : (n, f) ∈ L) : n ∈ namesF L := List.mem_map_of_mem (f := Prod.fst) h
theorem split_name (n : Str) : ∀ (L : List (Str × DFile)), n ∉ namesF L ∨ ∃ A f B, L = A ++ (n, f) :: B ∧ n ∉ namesF A
  | [] => .inl (by simp [namesF])
  | (k, g) :: L => by
    by_cases h : k = n
    · subst h; exact .inr ⟨[], g, L, rfl, by simp [namesF]⟩
    · rcases split_name n L with h1 | ⟨A, f, B, rfl, h3⟩
      · exact .inl (by simp only [namesF, List.map_cons, List.mem_cons, not_or]; exact ⟨Ne.symm h, h1⟩)
      · exact .inr ⟨(k, g) :: A, f, B, rfl, by simp only [namesF, List.map_cons, List.mem_cons, not_or]; exact ⟨Ne.symm h, h3⟩⟩
theorem getF_mem {L : List (Str × DFile)} (hn : (namesF L).Nodup) {n : Str} {f : DFile} (h : (n, f) ∈ L) : getF L n = some f := by
  obtain ⟨A, B, rfl⟩ := List.append_of_mem h
  have : n ∉ namesF A := by
    intro hc
    simp only [namesF, List.map_append, List.map_cons] at hn hc
    have := (List.nodup_append.1 hn).2.2 n hc n (by simp)
    exact this rfl
  exact getF_hit this
theorem used_list {d : Dsk} (ok : d.Ok) : (d.list.map fun n => (fileOf d.files n).bytes.length).sum = usedF d.files := by
  have hp : d.list.Perm (namesF d.files) := List.mergeSort_perm _ _
  rw [(hp.map _).sum_nat]
  unfold usedF namesF
  rw [List.map_map]
  congr 1
  apply List.map_congr_left
  intro x hx
  simp [fileOf, getF_mem ok.names (show (x.1, x.2) ∈ d.files from hx)]

/-- How the lookup goes with the plain list. -/
theorem ptrOf_spec {w : World} {b m : Nat} {d : Dsk} {fs : List FE} (h : DiskAt w b m d fs) (n : Str) :
    (n ∉ namesF d.files ∧ ptrOf fs n = none ∧ getF d.files n = none) ∨
    ∃ A f B, fs = A ++ f :: B ∧ f.name = n ∧ n ∉ A.map FE.name ∧ ptrOf fs n = some ⟨f.fb, 0, none⟩ ∧ n ∈ namesF d.files ∧ getF d.files n = some f.file := by
  have key : ∀ (fs : List FE), (n ∉ namesF (fs.map FE.nf) ∧ ptrOf fs n = none ∧ getF (fs.map FE.nf) n = none) ∨
    ∃ A f B, fs = A ++ f :: B ∧ f.name = n ∧ n ∉ A.map FE.name ∧ ptrOf fs n = some ⟨f.fb, 0, none⟩ ∧ n ∈ namesF (fs.map FE.nf) ∧ getF (fs.map FE.nf) n = some f.file := by
    intro fs
    induction fs with
    | nil => exact .inl ⟨by simp [namesF], rfl, rfl⟩
    | cons a fs ih =>
      by_cases ha : a.name = n
      · exact .inr ⟨[], a, fs, rfl, ha, by simp, by simp [ptrOf, ha], by simp [namesF, FE.nf, ha], by simp [getF, FE.nf, ha]⟩
      · rcases ih with ⟨h1, h2, h3⟩ | ⟨A, f, B, rfl, h2, h3, h4, h5, h6⟩
        · refine .inl ⟨?_, ?_, ?_⟩
          · simp only [namesF, List.map_cons, List.mem_cons, not_or, FE.nf] at h1 ⊢; exact ⟨Ne.symm ha, h1⟩
          · simpa [ptrOf, List.find?_cons, ha] using h2
          · simpa [getF, FE.nf, ha] using h3
        · refine .inr ⟨a :: A, f, B, rfl, h2, by simp only [List.map_cons, List.mem_cons, not_or]; exact ⟨Ne.symm ha, h3⟩, ?_, ?_, ?_⟩
          · simpa [ptrOf, List.find?_cons, ha] using h4
          · simp only [List.map_cons, namesF, List.mem_cons] at h5 ⊢; exact .inr h5
          · simpa [getF, FE.nf, ha] using h6
  rw [h.files]
  exact key fs

theorem there_calls {w : World} {b : Nat} {d : Dsk} {S : Nat → Prop} (h : DiskIn w b d S) (n : Str) :
    Calls Tryd.prog 55 #[.pointer (some ⟨b, 0, none⟩), .string ⟨n.toArray⟩] w fun e w' => e = .returned (.int .i64 (d.there n)) ∧ w = w' := by
  obtain ⟨m, fs, hD, -⟩ := h
  obtain ⟨c0, -⟩ := hdr_cells hD.hdr
  obtain ⟨clock, hmap, -⟩ := hD.map
  have hl := look_file hmap n
  rcases ptrOf_spec hD n with ⟨hn, hp, -⟩ | ⟨A, f, B, -, -, -, hp, hn, -⟩
  · have r : Hid (d.there n = 13) := by show d.there n = 13; simp [Dsk.there, hn]
    rw [hp] at hl
    clear hmap hD hn hp
    go_enter Tryd.func55, Tryd.ntmps55
    go_wp2
    go_ret
    exact ⟨by rw [r.out]; rfl, rfl⟩
  · have r : Hid (d.there n = 0) := by show d.there n = 0; simp [Dsk.there, hn]
    rw [hp] at hl
    clear hmap hD hn hp
    go_enter Tryd.func55, Tryd.ntmps55
    go_wp2
    go_ret
    exact ⟨by rw [r.out]; rfl, rfl⟩

/-- What 'of' hands back. -/
def OfPost (w : World) (f : DFile) (S : Nat → Prop) (e : Ending) (w' : World) : Prop :=
  ∃ sl, e = .returned (.agg #[sl, .int .i64 f.synced]) ∧ Own w sl f.bytes ∧ (∀ g, sl.ownBlock = some g → S g) ∧ Nw w w'

theorem of_ok {w : World} {b : Nat} {d : Dsk} {S : Nat → Prop} (h : DiskIn w b d S) (n : Str) :
    Calls Tryd.prog 62 #[.pointer (some ⟨b, 0, none⟩), .string ⟨n.toArray⟩] w (OfPost w (fileOf d.files n) S) := by
  obtain ⟨m, fs, hD, hS⟩ := h
  obtain ⟨c0, -⟩ := hdr_cells hD.hdr
  obtain ⟨clock, hmap, -⟩ := hD.map
  have hl := look_file hmap n
  have hbl : b < w.heap.size := lt_of_block hD.hdr
  rcases ptrOf_spec hD n with ⟨hn, hp, hg⟩ | ⟨A, f, B, hfs, -, -, hp, hn, hg⟩
  · have r : Hid (fileOf d.files n = ⟨[], 0⟩) := by show fileOf d.files n = _; simp [fileOf, hg]
    rw [hp] at hl
    have hl1 : (Instr.lookup 67 (.map (some m)) (.string ⟨n.toArray⟩) false).run Tryd.prog (w.alloc (.cells #[.slice none 0 0, .int .i64 0] 90)) = .ok (.pointer none) (w.alloc (.cells #[.slice none 0 0, .int .i64 0] 90)) := by
      rw [← hp]; exact look_file (by rw [heap_alloc_old _ _ (lt_of_block hmap)]; exact hmap) n
    clear hmap hD hn hp hg
    go_enter Tryd.func62, Tryd.ntmps62
    go_wp2_with (go_at_call 49; refine (none_ok _ b m (by go_simp)).mono ?_; rintro e w' ⟨rfl, rfl⟩)
    refine bodyPost_ret (v := .agg #[.slice none 0 0, .int .i64 0]) (by simp [results, Tryd.results62, go_sem]) rfl ⟨_, by rw [r.out]; rfl, by rw [r.out]; exact .inl ⟨rfl, rfl⟩, by simp [Value.ownBlock], (Nw.refl w).alloc _⟩
  · have r : Hid (fileOf d.files n = f.file) := by show fileOf d.files n = _; simp [fileOf, hg]
    have hfm : f ∈ fs := by rw [hfs]; simp
    have hf := hD.file f hfm
    have f0 : w.cell? ⟨f.fb, 0, none⟩ = some f.sl := by simp [World.cell?, hf.blk]
    have f1 : w.cell? ⟨f.fb, 1, none⟩ = some (.int .i64 f.file.synced) := by simp [World.cell?, hf.blk]
    have hfl : f.fb < w.heap.size := lt_of_block hf.blk
    have hS' : ∀ g, f.sl.ownBlock = some g → S g := fun g hg => (hS g).2 (by
      simp only [dskBlocks, List.mem_cons, List.mem_flatMap]
      exact .inr (.inr ⟨f, hfm, by simp [FE.blocks, hg]⟩))
    obtain ⟨sa, sc, hsl, -⟩ := hf.own.rd.len
    have HO := Lib.hid hf.own
    have HS := Lib.hid hS'
    rw [hsl] at f0
    have HSL := Lib.hid hsl
    rw [hp] at hl
    have hl1 : (Instr.lookup 67 (.map (some m)) (.string ⟨n.toArray⟩) false).run Tryd.prog (w.alloc (.cells #[.slice none 0 0, .int .i64 0] 90)) = .ok (.pointer (some ⟨f.fb, 0, none⟩)) (w.alloc (.cells #[.slice none 0 0, .int .i64 0] 90)) := by
      rw [← hp]; exact look_file (by rw [heap_alloc_old _ _ (lt_of_block hmap)]; exact hmap) n
    clear hmap hD hn hp hg hS' hf hfs hS hfm hsl
    go_enter Tryd.func62, Tryd.ntmps62
    go_wp2_with (go_at_call 49; refine (none_ok _ b m (by go_simp)).mono ?_; rintro e w' ⟨rfl, rfl⟩)
    refine bodyPost_ret (v := .agg #[.slice sa f.file.bytes.length sc, .int .i64 f.file.synced]) (by simp [results, Tryd.results62, go_sem]) rfl ⟨f.sl, by rw [r.out, HSL.out], by rw [r.out]; exact HO.out, HS.out, (Nw.refl w).alloc _⟩

theorem fieldBytes (w : World) (a : Option Addr) (n c : Nat) (k : Int) : (Instr.field 90 (.agg #[.slice a n c, .int .i64 k]) 0).run Tryd.prog w = .ok (.slice a n c) w := by kernel_rfl
theorem fieldSynced (w : World) (a : Option Addr) (n c : Nat) (k : Int) : (Instr.field 90 (.agg #[.slice a n c, .int .i64 k]) 1).run Tryd.prog w = .ok (.int .i64 k) w := by kernel_rfl

theorem Size_ok {w : World} {b : Nat} {d : Dsk} {S : Nat → Prop} (h : DiskIn w b d S) (n : Str) :
    Calls Tryd.prog 41 #[.pointer (some ⟨b, 0, none⟩), .string ⟨n.toArray⟩] w fun e w' => e = .returned (.int .i64 (fileOf d.files n).bytes.length) ∧ Nw w w' := by
  have H := Lib.hid (of_ok h n)
  clear h
  go_enter Tryd.func41, Tryd.ntmps41
  go_wp2_with (go_at_call 62; refine H.out.mono ?_)
  rintro e w1 ⟨sl, rfl, ho, -, hw⟩
  obtain ⟨a, cap, hsl, -⟩ := ho.rd.len
  subst hsl
  have q := fieldBytes w1 a (fileOf d.files n).bytes.length cap (fileOf d.files n).synced
  clear ho
  go_wp2
  go_ret
  exact ⟨rfl, hw⟩
theorem Synced_ok {w : World} {b : Nat} {d : Dsk} {S : Nat → Prop} (h : DiskIn w b d S) (n : Str) :
    Calls Tryd.prog 24 #[.pointer (some ⟨b, 0, none⟩), .string ⟨n.toArray⟩] w fun e w' => e = .returned (.int .i64 (fileOf d.files n).synced) ∧ Nw w w' := by
  have H := Lib.hid (of_ok h n)
  clear h
  go_enter Tryd.func24, Tryd.ntmps24
  go_wp2_with (go_at_call 62; refine H.out.mono ?_)
  rintro e w1 ⟨sl, rfl, ho, -, hw⟩
  obtain ⟨a, cap, hsl, -⟩ := ho.rd.len
  subst hsl
  have q := fieldSynced w1 a (fileOf d.files n).bytes.length cap (fileOf d.files n).synced
  clear ho
  go_wp2
  go_ret
  exact ⟨rfl, hw⟩
end Go.Proofs.YtihagdadbeoeoaaDoor
