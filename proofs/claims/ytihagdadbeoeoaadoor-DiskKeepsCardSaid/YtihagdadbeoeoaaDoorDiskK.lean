/-
  Sync and Cut: what they do, and whole.
-/
import Derived.Test.YtihagdadbeoeoaaDoorDiskJ
namespace Go.Proofs.YtihagdadbeoeoaaDoor
open Go Go.RowKit Go.Sort
set_option maxRecDepth 100000
set_option maxHeartbeats 800000

/-- The file, where it is there. -/
theorem there_split {w : World} {b m : Nat} {d : Dsk} {fs : List FE} (hD : DiskAt w b m d fs) {n : Str} (h : d.there n = 0) :
    ∃ A f B, fs = A ++ f :: B ∧ f.name = n ∧ n ∉ A.map FE.name ∧ ptrOf fs n = some ⟨f.fb, 0, none⟩ ∧ fileOf d.files n = f.file ∧ d.files = A.map FE.nf ++ (n, f.file) :: B.map FE.nf := by
  rcases ptrOf_spec hD n with ⟨hnn, -, -⟩ | ⟨A, f, B, hfs, hfn, hnA, hp, -, hg⟩
  · simp [Dsk.there, hnn] at h
  · exact ⟨A, f, B, hfs, hfn, hnA, hp, by simp [fileOf, hg], by rw [hD.files, hfs, nf_mid, hfn]⟩

/-- A file is turned, its bytes' row is another cut of the same one or is new: from memory to memory. -/
theorem turn_file {w w1 w2 : World} {b m : Nat} {d : Dsk} {A B : List FE} {f : FE} {S : Nat → Prop} {n : Str} (hD : DiskAt w b m d (A ++ f :: B)) (hS : ∀ k, S k ↔ k ∈ dskBlocks b m (A ++ f :: B)) (hw1 : Nw w w1)
    (hfn : f.name = n) (hnA : n ∉ A.map FE.name) (g : DFile) (sl : Value)
    (ho : ∀ k, k < w1.heap.size → k ∉ f.blocks → w2.heap[k]? = w1.heap[k]?) (ho2 : Only (fun k => k ∈ f.blocks) w1 w2)
    (hf : FE.At w2 { f with file := g, sl := sl }) (hsl : sl.ownBlock = f.sl.ownBlock ∨ ∀ k, sl.ownBlock = some k → w1.heap.size ≤ k)
    (hs : g.synced ≤ g.bytes.length) (hu : g.bytes.length ≤ f.file.bytes.length) : DiskTo S w w2 b { d with files := setF d.files n g } := by
  have hD1 : DiskAt w1 b m d (A ++ f :: B) := hD.keep fun k hk => hw1.block k (hD.lt k hk) (fun hf => hf)
  have hused := hD.ok.used
  rw [hD.files, nf_mid, usedF_mid] at hused
  have hto := hD1.upd g sl ho hf hsl (by rw [hfn]; exact hnA) hs (by omega)
  rw [hfn] at hto
  refine ⟨_, ⟨m, _, hto, fun k => Iff.rfl⟩, ?_, ?_⟩
  · exact hw1.only.trans (ho2.mono fun k _ hk => (hS k).2 (by simp only [dskBlocks, List.mem_cons, List.mem_flatMap]; exact .inr (.inr ⟨f, by simp, hk⟩)))
  · intro k hk
    have hk' : k ∈ dskBlocks b m (A ++ { f with file := g, sl := sl } :: B) := by rw [hfn] at *; exact hk
    rcases blocks_upd hsl k hk' with h | h
    · exact .inl ((hS k).2 h)
    · exact .inr (Nat.le_trans hw1.size h)

theorem Sync2_ok {w : World} {b : Nat} {d : Dsk} {S : Nat → Prop} (h : DiskIn w b d S) (n : Str) (pn pd : Nat)
    (hn : w.cell? ⟨pn, 0, none⟩ = some (.string ⟨n.toArray⟩)) (hd : w.cell? ⟨pd, 0, none⟩ = some (.pointer (some ⟨b, 0, none⟩))) (hth : d.there n = 0) :
    Calls Tryd.prog 56 #[.pointer (some ⟨pd, 0, none⟩), .pointer (some ⟨pn, 0, none⟩)] w fun e w' =>
      e = .returned (.tuple #[]) ∧ DiskTo S w w' b { d with files := setF d.files n ⟨(fileOf d.files n).bytes, (fileOf d.files n).bytes.length⟩ } := by
  obtain ⟨m, fs, hD, hS⟩ := h
  obtain ⟨c0, c1, -, -, -⟩ := hdr_cells hD.hdr
  obtain ⟨clock, hmap, hclk⟩ := hD.map
  obtain ⟨A, f, B, rfl, hfn, hnA, hp, hfo, -⟩ := there_split hD hth
  rw [hfo]
  have hf := hD.mem
  obtain ⟨fa, fc, hsl⟩ := slice_form hf.own
  have d0 := cellG hn
  have d1 := cellG hd
  have d3 := cellG c0
  have f0 : w.cell? ⟨f.fb, 0, none⟩ = some (.slice fa f.file.bytes.length fc) := by rw [← hsl]; simp [World.cell?, hf.blk]
  have d4 := cellG f0
  have hlk : ∀ p : Regrown, (Instr.lookup 67 (.map (some m)) (.string ⟨n.toArray⟩) false).run Tryd.prog (grow (redrawn w p.d) p.os) = .ok (.pointer (some ⟨f.fb, 0, none⟩)) (grow (redrawn w p.d) p.os) := fun p => by
    rw [← hp]; exact look_file ((Nw.of_regrown ⟨p, rfl⟩ : Nw w _).at_ hmap) n
  have HD := Lib.hid hD
  have HS := Lib.hid hS
  have HF := Lib.hid hf
  have HN := Lib.hid hfn
  have HA := Lib.hid hnA
  clear hD hS hf hfn hnA hp hfo hsl hmap hclk hn hd c0 c1 f0 hth
  go_enter Tryd.func56, Tryd.ntmps56
  refine wp_region_tail_below 16 (by kernel_rfl) (by kernel_rfl) ?_
  simp only [List.take_succ_cons, List.take_zero, List.drop_succ_cons, List.drop_zero]
  repeat (first | go_big_quiet_step (fail) | quiet_step (fail))
  refine wpQuiet_nil ?_
  intro w1 hw1
  have hw1 := Nw.of_regrown hw1
  have hb1 := hw1.at_ HF.out.blk
  have q1 : w1.cell? ⟨f.fb, 1, none⟩ = some (.int .i64 f.file.synced) := by simp [World.cell?, hb1]
  have q2 : w1.frozen? ⟨f.fb, 1, none⟩ = false := by simp [World.frozen?, hb1]
  have HB := Lib.hid hb1
  have HW := Lib.hid hw1
  clear hlk d0 d1 d3 d4 hb1 hw1
  go_wp2
  refine bodyPost_end (results_none rfl _ _ _) rfl ⟨rfl, ?_⟩
  refine turn_file HD.out HS.out HW.out HN.out HA.out ⟨f.file.bytes, f.file.bytes.length⟩ f.sl ?_ ?_ ⟨?_, ?_⟩ (.inl rfl) (Nat.le_refl _) (Nat.le_refl _)
  · intro k hk hkn
    simp only [FE.blocks, List.mem_cons, not_or] at hkn
    rw [Below.heap_setCell _ _ _ _ hkn.1]
  · exact (Only.refl w1).setCell (fun _ => by simp [FE.blocks]) _
  · rw [heap_setCell_at HB.out 1 _]; simp
  · refine (HF.out.own.keep (w' := w1) fun g hg => HW.out.block g (HF.out.own.lt g hg) (fun hf => hf)).keep fun g hg => ?_
    rw [Below.heap_setCell]
    intro e
    exact (own_ne HD.out).2.2 (by rw [hg]; exact congrArg some e)
end Go.Proofs.YtihagdadbeoeoaaDoor
