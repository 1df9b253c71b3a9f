/-
  Texts merged by a program of this claim's: DiskJ, DiskK, DiskL, DiskN.
-/
import Derived.Test.YtoikjiojhlfgiaaGreatDoorM6
import Derived.Test.YtoikjiojhlfgiaaGreatDoorM5
/-
  Append, whole.
-/
namespace Go.Proofs.YtoikjiojhlfgiaaGreatDoor
open Go Go.RowKit Go.Sort
set_option maxRecDepth 100000
set_option maxHeartbeats 800000

theorem DiskIn.out {S : Nat → Prop} {w : World} {b : Nat} {d : Dsk} (h : DiskIn w b d S) {x : Nat} (hx : w.heap.size ≤ x) : ¬ S x := fun hs => by
  have := h.lt x hs; omega

theorem en51 : Enters Tryz.prog 89 := enters_of Tryz.func89 (by kernel_rfl) (by kernel_rfl)
theorem en53 : Enters Tryz.prog 91 := enters_of Tryz.func91 (by kernel_rfl) (by kernel_rfl)

/-- What a call that may turn the disk leaves. -/
def Turns (S : Nat → Prop) (w : World) (b : Nat) (r : Dsk × Int) (e : Ending) (w' : World) : Prop := e = .returned (.int .i64 r.2) ∧ DiskTo S w w' b r.1

theorem Append_ok {w : World} {b : Nat} {d : Dsk} {S : Nat → Prop} (h : DiskIn w b d S) (n : Str) (l : List UInt8) (src : Value) (hs : Bs w src l) (hsep : l ≠ [] → ∀ g, src.ownBlock = some g → ¬ S g)
    (hnl : n.length ≤ 9223372036854775807) (hll : l.length ≤ 140737488355328) :
    Calls Tryz.prog 45 #[.pointer (some ⟨b, 0, none⟩), .string ⟨n.toArray⟩, src] w (Turns S w b (d.append n l)) := by
  obtain ⟨sa, sc, rfl, -⟩ := hs.len
  have hwB : Nw w (((w.alloc (.cells #[.pointer (some ⟨b, 0, none⟩)] 24)).alloc (.cells #[.string ⟨n.toArray⟩] 9)).alloc (.cells #[.slice sa l.length sc] 45)) := (((Nw.refl w).alloc _).alloc _).alloc _
  have hB := h.nw hwB
  have f1 : ¬ S w.heap.size := h.out (Nat.le_refl _)
  have f2 : ¬ S (w.heap.size + 1) := h.out (by omega)
  have f3 : ¬ S (w.heap.size + 1 + 1) := h.out (by omega)
  have c1 : (((w.alloc (.cells #[.pointer (some ⟨b, 0, none⟩)] 24)).alloc (.cells #[.string ⟨n.toArray⟩] 9)).alloc (.cells #[.slice sa l.length sc] 45)).cell? ⟨w.heap.size, 0, none⟩ = some (.pointer (some ⟨b, 0, none⟩)) := by
    simp [go_sem]
  have c2 : (((w.alloc (.cells #[.pointer (some ⟨b, 0, none⟩)] 24)).alloc (.cells #[.string ⟨n.toArray⟩] 9)).alloc (.cells #[.slice sa l.length sc] 45)).cell? ⟨w.heap.size + 1, 0, none⟩ = some (.string ⟨n.toArray⟩) := by
    simp [go_sem]
  have c3 : (((w.alloc (.cells #[.pointer (some ⟨b, 0, none⟩)] 24)).alloc (.cells #[.string ⟨n.toArray⟩] 9)).alloc (.cells #[.slice sa l.length sc] 45)).cell? ⟨w.heap.size + 1 + 1, 0, none⟩ = some (.slice sa l.length sc) := by
    simp [go_sem]
  have H := operation_ok hB 89 91 #[.pointer (some ⟨w.heap.size + 1, 0, none⟩), .pointer (some ⟨w.heap.size, 0, none⟩), .pointer (some ⟨w.heap.size + 1 + 1, 0, none⟩)]
    #[.pointer (some ⟨w.heap.size, 0, none⟩), .pointer (some ⟨w.heap.size + 1, 0, none⟩), .pointer (some ⟨w.heap.size + 1 + 1, 0, none⟩)] (d.mayAppend n l) (fun L => setF L n ⟨(fileOf L n).bytes ++ l, (fileOf L n).synced⟩) en51 en53
    (fun _ => Append1_ok hB n l _ _ _ _ c2 c1 c3 (hs.nw hwB) hnl hll)
    (fun hm _ w1 ho hd => Append2_ok hd n l _ _ _ _ (ho.cell c2 f2) (ho.cell c1 f1) (ho.cell c3 f3) ((hs.nw hwB).keep ho hsep) hsep f2 f1 f3 hm)
  have HH := Lib.hid H
  have HW := Lib.hid hwB
  clear H hwB hB h hs hsep c1 c2 c3 f1 f2 f3
  go_enter Tryz.func45, Tryz.ntmps45
  go_wp2_with (go_at_call 88; refine HH.out.mono ?_)
  rintro e w2 ⟨rfl, hw2⟩
  go_wp2
  go_ret
  exact ⟨rfl, DiskTo.trans HW.out.only hw2⟩
end Go.Proofs.YtoikjiojhlfgiaaGreatDoor

/-
  Sync and Cut: what they do, and whole.
-/
namespace Go.Proofs.YtoikjiojhlfgiaaGreatDoor
open Go Go.RowKit Go.Sort
set_option maxRecDepth 100000
set_option maxHeartbeats 800000

/-- The file, where it is there. -/
theorem there_split {w : World} {b m : Nat} {d : Dsk} {fs : List FE} (hD : DiskAt w b m d fs) {n : Str} (h : d.there n = 0) :
    ∃ A f B, fs = A ++ f :: B ∧ f.name = n ∧ n ∉ A.map FE.name ∧ ptrOf fs n = some ⟨f.fb, 0, none⟩ ∧ fileOf d.files n = f.file ∧ d.files = A.map FE.nf ++ (n, f.file) :: B.map FE.nf := by
  rcases ptrOf_spec hD n with ⟨hnn, -, -⟩ | ⟨A, f, B, hfs, hfn, hnA, hp, -, hg⟩
  · simp [Dsk.there, hnn] at h
  · exact ⟨A, f, B, hfs, hfn, hnA, hp, by simp [fileOf, hg], by rw [hD.files, hfs, nf_mid, hfn]⟩

/-- A file is turned, its bytes' row is another cut of the same one or is new: from memory to memory. -/
theorem turn_file {w w1 w2 : World} {b m : Nat} {d : Dsk} {A B : List FE} {f : FE} {S : Nat → Prop} {n : Str} (hD : DiskAt w b m d (A ++ f :: B)) (hS : ∀ k, S k ↔ k ∈ dskBlocks b m (A ++ f :: B)) (hw1 : Nw w w1)
    (hfn : f.name = n) (hnA : n ∉ A.map FE.name) (g : DFile) (sl : Value)
    (ho : ∀ k, k < w1.heap.size → k ∉ f.blocks → w2.heap[k]? = w1.heap[k]?) (ho2 : Only (fun k => k ∈ f.blocks) w1 w2)
    (hf : FE.At w2 { f with file := g, sl := sl }) (hsl : sl.ownBlock = f.sl.ownBlock ∨ ∀ k, sl.ownBlock = some k → w1.heap.size ≤ k)
    (hs : g.synced ≤ g.bytes.length) (hu : g.bytes.length ≤ f.file.bytes.length) : DiskTo S w w2 b { d with files := setF d.files n g } := by
  have hD1 : DiskAt w1 b m d (A ++ f :: B) := hD.keep fun k hk => hw1.block k (hD.lt k hk) (fun hf => hf)
  have hused := hD.ok.used
  rw [hD.files, nf_mid, usedF_mid] at hused
  have hto := hD1.upd g sl ho hf hsl (by rw [hfn]; exact hnA) hs (by omega)
  rw [hfn] at hto
  refine ⟨_, ⟨m, _, hto, fun k => Iff.rfl⟩, ?_, ?_⟩
  · exact hw1.only.trans (ho2.mono fun k _ hk => (hS k).2 (by simp only [dskBlocks, List.mem_cons, List.mem_flatMap]; exact .inr (.inr ⟨f, by simp, hk⟩)))
  · intro k hk
    have hk' : k ∈ dskBlocks b m (A ++ { f with file := g, sl := sl } :: B) := by rw [hfn] at *; exact hk
    rcases blocks_upd hsl k hk' with h | h
    · exact .inl ((hS k).2 h)
    · exact .inr (Nat.le_trans hw1.size h)

theorem Sync2_ok {w : World} {b : Nat} {d : Dsk} {S : Nat → Prop} (h : DiskIn w b d S) (n : Str) (pn pd : Nat)
    (hn : w.cell? ⟨pn, 0, none⟩ = some (.string ⟨n.toArray⟩)) (hd : w.cell? ⟨pd, 0, none⟩ = some (.pointer (some ⟨b, 0, none⟩))) (hth : d.there n = 0) :
    Calls Tryz.prog 130 #[.pointer (some ⟨pd, 0, none⟩), .pointer (some ⟨pn, 0, none⟩)] w fun e w' =>
      e = .returned (.tuple #[]) ∧ DiskTo S w w' b { d with files := setF d.files n ⟨(fileOf d.files n).bytes, (fileOf d.files n).bytes.length⟩ } := by
  obtain ⟨m, fs, hD, hS⟩ := h
  obtain ⟨c0, c1, -, -, -⟩ := hdr_cells hD.hdr
  obtain ⟨clock, hmap, hclk⟩ := hD.map
  obtain ⟨A, f, B, rfl, hfn, hnA, hp, hfo, -⟩ := there_split hD hth
  rw [hfo]
  have hf := hD.mem
  obtain ⟨fa, fc, hsl⟩ := slice_form hf.own
  have d0 := cellG hn
  have d1 := cellG hd
  have d3 := cellG c0
  have f0 : w.cell? ⟨f.fb, 0, none⟩ = some (.slice fa f.file.bytes.length fc) := by rw [← hsl]; simp [World.cell?, hf.blk]
  have d4 := cellG f0
  have hlk : ∀ p : Regrown, (Instr.lookup 113 (.map (some m)) (.string ⟨n.toArray⟩) false).run Tryz.prog (grow (redrawn w p.d) p.os) = .ok (.pointer (some ⟨f.fb, 0, none⟩)) (grow (redrawn w p.d) p.os) := fun p => by
    rw [← hp]; exact look_file ((Nw.of_regrown ⟨p, rfl⟩ : Nw w _).at_ hmap) n
  have HD := Lib.hid hD
  have HS := Lib.hid hS
  have HF := Lib.hid hf
  have HN := Lib.hid hfn
  have HA := Lib.hid hnA
  clear hD hS hf hfn hnA hp hfo hsl hmap hclk hn hd c0 c1 f0 hth
  go_enter Tryz.func130, Tryz.ntmps130
  refine wp_region_tail_below 16 (by kernel_rfl) (by kernel_rfl) ?_
  simp only [List.take_succ_cons, List.take_zero, List.drop_succ_cons, List.drop_zero]
  repeat (first | go_big_quiet_step (fail) | quiet_step (fail))
  refine wpQuiet_nil ?_
  intro w1 hw1
  have hw1 := Nw.of_regrown hw1
  have hb1 := hw1.at_ HF.out.blk
  have q1 : w1.cell? ⟨f.fb, 1, none⟩ = some (.int .i64 f.file.synced) := by simp [World.cell?, hb1]
  have q2 : w1.frozen? ⟨f.fb, 1, none⟩ = false := by simp [World.frozen?, hb1]
  have HB := Lib.hid hb1
  have HW := Lib.hid hw1
  clear hlk d0 d1 d3 d4 hb1 hw1
  go_wp2
  refine bodyPost_end (results_none rfl _ _ _) rfl ⟨rfl, ?_⟩
  refine turn_file HD.out HS.out HW.out HN.out HA.out ⟨f.file.bytes, f.file.bytes.length⟩ f.sl ?_ ?_ ⟨?_, ?_⟩ (.inl rfl) (Nat.le_refl _) (Nat.le_refl _)
  · intro k hk hkn
    simp only [FE.blocks, List.mem_cons, not_or] at hkn
    rw [Below.heap_setCell _ _ _ _ hkn.1]
  · exact (Only.refl w1).setCell (fun _ => by simp [FE.blocks]) _
  · rw [heap_setCell_at HB.out 1 _]; simp
  · refine (HF.out.own.keep (w' := w1) fun g hg => HW.out.block g (HF.out.own.lt g hg) (fun hf => hf)).keep fun g hg => ?_
    rw [Below.heap_setCell]
    intro e
    exact (own_ne HD.out).2.2 (by rw [hg]; exact congrArg some e)
end Go.Proofs.YtoikjiojhlfgiaaGreatDoor

/-
  Cut: what it does.
-/
namespace Go.Proofs.YtoikjiojhlfgiaaGreatDoor
open Go Go.RowKit Go.Sort
set_option maxRecDepth 100000
set_option maxHeartbeats 800000

theorem left_ok {w : World} {fb L c k : Nat} {fa : Option Addr} {y : Int} (hb : w.heap[fb]? = some (.cells #[.slice fa L c, .int .i64 y] 126 (0, 0))) (hk : k ≤ L) (hL : L ≤ c) (_hc : c ≤ 9223372036854775807) (_hn : fa = none → c = 0) :
    Calls Tryz.prog 86 #[.pointer (some ⟨fb, 0, none⟩), .int .i64 k] w fun e w' => e = .returned (.tuple #[]) ∧ w' = (w.setCell ⟨fb, 0, none⟩ (.slice fa k k)).setCell ⟨fb, 1, none⟩ (.int .i64 k) := by
  have q0 : w.cell? ⟨fb, 0, none⟩ = some (.slice fa L c) := by simp [World.cell?, hb]
  have q1 : w.cell? ⟨fb, 1, none⟩ = some (.int .i64 y) := by simp [World.cell?, hb]
  have q2 : ∀ i, w.frozen? ⟨fb, i, none⟩ = false := by simp [World.frozen?, hb]
  have hkc : k ≤ c := by omega
  clear hb
  go_enter Tryz.func86, Tryz.ntmps86
  go_wp2
  exact bodyPost_end (results_none rfl _ _ _) rfl ⟨rfl, rfl⟩

theorem left_row {w : World} {v : Value} {l : List UInt8} {e : TypeId} {fa : Option Addr} {c : Nat} (h : RowF u8 e w v l) (hv : v = .slice fa l.length c) (k : Nat) (hk : k ≤ l.length) :
    RowF u8 e w (.slice fa k k) (l.take k) ∧ (Value.slice fa k k).ownBlock = v.ownBlock ∧ l.length ≤ c ∧ c ≤ maxLen ∧ (fa = none → c = 0) := by
  rcases h with ⟨rfl, rfl⟩ | ⟨g, cap, cur, rfl, h1, h2, h3, h4, h5⟩
  · cases hv
    have : k = 0 := by simpa using hk
    subst this
    exact ⟨RowF.nil, rfl, by simp, by simp, fun _ => rfl⟩
  · cases hv
    refine ⟨.inr ⟨g, k, cur, by rw [List.length_take, Nat.min_eq_left hk], h1, by rw [List.length_take]; omega, by omega, by omega, ?_⟩, rfl, h2, h4, fun h => by cases h⟩
    rw [List.length_take, Nat.min_eq_left hk, List.map_take, ← h5, List.take_take, Nat.min_eq_left hk]

/-- A file is left with its first bytes: from memory to memory. -/
theorem left_turn {w w1 : World} {b m : Nat} {d : Dsk} {A B : List FE} {f : FE} {S : Nat → Prop} {n : Str} (hD : DiskAt w b m d (A ++ f :: B)) (hS : ∀ k, S k ↔ k ∈ dskBlocks b m (A ++ f :: B)) (hw1 : Nw w w1)
    (hfn : f.name = n) (hnA : n ∉ A.map FE.name) (k : Nat) (hk : k ≤ f.file.bytes.length) :
    Calls Tryz.prog 86 #[.pointer (some ⟨f.fb, 0, none⟩), .int .i64 k] w1 fun e w' => e = .returned (.tuple #[]) ∧ DiskTo S w w' b { d with files := setF d.files n ⟨f.file.bytes.take k, k⟩ } := by
  have hf := hD.mem
  obtain ⟨fa, fc, hsl⟩ := slice_form hf.own
  have hf1 : FE.At w1 f := hf.keep fun g hg => hw1.block g (by
    simp only [FE.blocks, List.mem_cons, Option.mem_toList] at hg
    rcases hg with rfl | hg
    · exact lt_of_block hf.blk
    · exact hf.own.lt g hg) (fun hf => hf)
  obtain ⟨hr, hob, h1, h2, h3⟩ := left_row hf1.own hsl k hk
  have hb1 := hf1.blk
  rw [hsl] at hb1
  refine (left_ok hb1 hk h1 (by unfold maxLen at h2; omega) h3).mono ?_
  rintro e w' ⟨he, rfl⟩
  refine ⟨he, turn_file hD hS hw1 hfn hnA ⟨f.file.bytes.take k, k⟩ (.slice fa k k) ?_ ?_ ⟨?_, ?_⟩ (.inl hob) (by show k ≤ (f.file.bytes.take k).length; rw [List.length_take]; omega) (by show (f.file.bytes.take k).length ≤ _; rw [List.length_take]; omega)⟩
  · intro j hj hjn
    simp only [FE.blocks, List.mem_cons, not_or] at hjn
    rw [Below.heap_setCell _ _ _ _ hjn.1, Below.heap_setCell _ _ _ _ hjn.1]
  · exact ((Only.refl w1).setCell (fun _ => by simp [FE.blocks]) _).setCell (fun _ => by simp [FE.blocks]) _
  · rw [heap_setCell_at (heap_setCell_at hb1 0 _) 1 _]; simp
  · refine RowF.keep hr fun g hg => ?_
    have hne : g ≠ f.fb := fun e => (own_ne hD).2.2 (by rw [← hob, hg, e])
    rw [Below.heap_setCell _ _ _ _ hne, Below.heap_setCell _ _ _ _ hne]

end Go.Proofs.YtoikjiojhlfgiaaGreatDoor

/-
  The disk in memory: a file gone from the map, a file put into it under another name.
-/
namespace Go.Proofs.YtoikjiojhlfgiaaGreatDoor
open Go Go.RowKit

theorem blocks_of {b m : Nat} {fs : List FE} {f : FE} (hf : f ∈ fs) {k : Nat} (hk : k ∈ f.blocks) : k ∈ dskBlocks b m fs := by
  simp only [dskBlocks, List.mem_cons, List.mem_flatMap]; exact .inr (.inr ⟨f, hf, hk⟩)

/-- A file is gone from the map; it lies there still. -/
theorem DiskAt.drop {w w' : World} {b m clock : Nat} {d : Dsk} {A B : List FE} {f : FE} (h : DiskAt w b m d (A ++ f :: B)) (hclk : ∀ x ∈ A ++ f :: B, x.born < clock)
    (hm : w'.heap[m]? = some (.map (ents ((A ++ B).map FE.en)) clock)) (ho : ∀ k, k < w.heap.size → k ≠ m → w'.heap[k]? = w.heap[k]?) (hA : f.name ∉ A.map FE.name) :
    DiskAt w' b m { d with files := delF d.files f.name } (A ++ B) ∧ f.At w' ∧ (∀ k ∈ f.blocks, k ∉ dskBlocks b m (A ++ B)) ∧ f.blocks.Nodup := by
  have hfile : d.files = A.map FE.nf ++ (f.name, f.file) :: B.map FE.nf := by rw [h.files, nf_mid]
  have hdel : delF d.files f.name = A.map FE.nf ++ B.map FE.nf := by
    rw [hfile]; exact delF_hit (by rw [names_of_FE]; exact hA)
  have hnd := h.nodup
  have hlt := h.lt
  have hbm : b ≠ m := by simp only [dskBlocks, List.nodup_cons, List.mem_cons, not_or] at hnd; exact hnd.1.1
  have hmf : ∀ x ∈ A ++ f :: B, m ∉ x.blocks := by
    simp only [dskBlocks, List.nodup_cons, List.mem_cons, List.mem_flatMap, not_or] at hnd
    exact fun x hx hc => hnd.2.1 ⟨x, hx, hc⟩
  have keepF : ∀ x ∈ A ++ f :: B, x.At w' := fun x hx => (h.file x hx).keep fun k hk => ho k (hlt k (blocks_of hx hk)) (fun e => hmf x hx (e ▸ hk))
  have hsub : (dskBlocks b m (A ++ B)).Sublist (dskBlocks b m (A ++ f :: B)) := by
    rw [dskBlocks_mid, dskBlocks_two]
    exact List.Sublist.append_left ((List.sublist_append_right _ _).trans (List.sublist_cons_self _ _)) _
  have hmem : ∀ x ∈ A ++ B, x ∈ A ++ f :: B := fun x hx => by
    simp only [List.mem_append, List.mem_cons] at hx ⊢
    rcases hx with hx | hx
    · exact .inl hx
    · exact .inr (.inr hx)
  have hmid := hnd
  rw [dskBlocks_mid] at hmid
  have e : (b :: m :: A.flatMap FE.blocks) ++ f.fb :: (f.sl.ownBlock.toList ++ B.flatMap FE.blocks) = (b :: m :: A.flatMap FE.blocks) ++ (f.blocks ++ B.flatMap FE.blocks) := by simp [FE.blocks]
  rw [e, List.nodup_append] at hmid
  refine ⟨⟨?_, ⟨clock, hm, fun x hx => hclk x (hmem x hx)⟩, ?_, fun x hx => keepF x (hmem x hx), hsub.nodup hnd, ?_, ?_⟩, keepF f (by simp), ?_, ?_⟩
  · rw [ho b (hlt b (by simp [dskBlocks])) hbm]; exact h.hdr
  · show delF d.files f.name = _
    rw [hdel, List.map_append]
  · have : ((A ++ B).map FE.born).Sublist ((A ++ f :: B).map FE.born) := (List.Sublist.append_left (List.sublist_cons_self _ _) _).map _
    exact this.nodup h.born
  · rw [hdel]; exact h.ok.del hfile
  · intro k hk hc
    rw [dskBlocks_two, List.mem_append] at hc
    rcases hc with hc | hc
    · exact hmid.2.2 k hc k (List.mem_append_left _ hk) rfl
    · exact (List.nodup_append.1 hmid.2.1).2.2 k hk k hc rfl
  · exact (List.nodup_append.1 hmid.2.1).1

/-- A file that lies there is put under a name that is new. -/
theorem DiskAt.put_new {w w' : World} {b m clock : Nat} {d : Dsk} {fs : List FE} (h : DiskAt w b m d fs) {f : FE} (tn : Str) (hf : f.At w) (hdis : ∀ k ∈ f.blocks, k ∉ dskBlocks b m fs) (hnd : f.blocks.Nodup) (hclk : ∀ x ∈ fs, x.born < clock)
    (hm : w'.heap[m]? = some (.map (ents (fs.map FE.en ++ [⟨tn, .pointer (some ⟨f.fb, 0, none⟩), clock⟩])) (clock + 1))) (ho : ∀ k, k < w.heap.size → k ≠ m → w'.heap[k]? = w.heap[k]?)
    (ok : ({ d with files := d.files ++ [(tn, f.file)] } : Dsk).Ok) : DiskAt w' b m { d with files := d.files ++ [(tn, f.file)] } (fs ++ [{ f with name := tn, born := clock }]) := by
  have hnd0 := h.nodup
  have hlt := h.lt
  have hbm : b ≠ m := by simp only [dskBlocks, List.nodup_cons, List.mem_cons, not_or] at hnd0; exact hnd0.1.1
  have hmf : ∀ x ∈ fs, m ∉ x.blocks := by
    simp only [dskBlocks, List.nodup_cons, List.mem_cons, List.mem_flatMap, not_or] at hnd0
    exact fun x hx hc => hnd0.2.1 ⟨x, hx, hc⟩
  have hflt : ∀ k ∈ f.blocks, k < w.heap.size := fun k hk => by
    simp only [FE.blocks, List.mem_cons, Option.mem_toList] at hk
    rcases hk with rfl | hk
    · exact lt_of_block hf.blk
    · exact hf.own.lt k hk
  refine ⟨?_, ⟨clock + 1, ?_, ?_⟩, ?_, ?_, ?_, ?_, ok⟩
  · rw [ho b (hlt b (by simp [dskBlocks])) hbm]; exact h.hdr
  · rw [hm]; simp [FE.en]
  · intro x hx
    simp only [List.mem_append, List.mem_singleton] at hx
    rcases hx with hx | rfl
    · have := hclk x hx; omega
    · exact Nat.lt_succ_self _
  · show d.files ++ _ = _
    rw [h.files]; simp [FE.nf]
  · intro x hx
    simp only [List.mem_append, List.mem_singleton] at hx
    rcases hx with hx | rfl
    · exact (h.file x hx).keep fun k hk => ho k (hlt k (blocks_of hx hk)) (fun e => hmf x hx (e ▸ hk))
    · have h1 : f.At w' := hf.keep fun k hk => ho k (hflt k hk) (fun e => hdis k hk (by rw [e]; simp [dskBlocks]))
      exact ⟨h1.blk, h1.own⟩
  · have : dskBlocks b m (fs ++ [{ f with name := tn, born := clock }]) = dskBlocks b m fs ++ f.blocks := by simp [dskBlocks, FE.blocks]
    rw [this, List.nodup_append]
    exact ⟨hnd0, hnd, fun k hk c hc e => hdis c hc (e ▸ hk)⟩
  · rw [List.map_append, List.nodup_append]
    refine ⟨h.born, by simp, ?_⟩
    intro k hk c hc e
    obtain ⟨x, hx, rfl⟩ := List.mem_map.1 hk
    simp at hc
    have := hclk x hx
    omega

/-- A file that lies there is put in another one's place. -/
theorem DiskAt.put_over {w w' : World} {b m clock : Nat} {d : Dsk} {A B : List FE} {g : FE} (h : DiskAt w b m d (A ++ g :: B)) {f : FE} (hf : f.At w) (hdis : ∀ k ∈ f.blocks, k ∉ dskBlocks b m (A ++ g :: B)) (hnd : f.blocks.Nodup) (hclk : ∀ x ∈ A ++ g :: B, x.born < clock)
    (hm : w'.heap[m]? = some (.map (ents (A.map FE.en ++ ⟨g.name, .pointer (some ⟨f.fb, 0, none⟩), g.born⟩ :: B.map FE.en)) clock)) (ho : ∀ k, k < w.heap.size → k ≠ m → w'.heap[k]? = w.heap[k]?)
    (hA : g.name ∉ A.map FE.name) (ok : ({ d with files := setF d.files g.name f.file } : Dsk).Ok) : DiskAt w' b m { d with files := setF d.files g.name f.file } (A ++ { f with name := g.name, born := g.born } :: B) := by
  have hnd0 := h.nodup
  have hlt := h.lt
  have hbm : b ≠ m := by simp only [dskBlocks, List.nodup_cons, List.mem_cons, not_or] at hnd0; exact hnd0.1.1
  have hmf : ∀ x ∈ A ++ g :: B, m ∉ x.blocks := by
    simp only [dskBlocks, List.nodup_cons, List.mem_cons, List.mem_flatMap, not_or] at hnd0
    exact fun x hx hc => hnd0.2.1 ⟨x, hx, hc⟩
  have hflt : ∀ k ∈ f.blocks, k < w.heap.size := fun k hk => by
    simp only [FE.blocks, List.mem_cons, Option.mem_toList] at hk
    rcases hk with rfl | hk
    · exact lt_of_block hf.blk
    · exact hf.own.lt k hk
  have hset : setF d.files g.name f.file = A.map FE.nf ++ (g.name, f.file) :: B.map FE.nf := by
    rw [h.files, nf_mid]; exact setF_hit (by rw [names_of_FE]; exact hA)
  have keepX : ∀ x ∈ A ++ g :: B, x.At w' := fun x hx => (h.file x hx).keep fun k hk => ho k (hlt k (blocks_of hx hk)) (fun e => hmf x hx (e ▸ hk))
  refine ⟨?_, ⟨clock, ?_, ?_⟩, ?_, ?_, ?_, ?_, ok⟩
  · rw [ho b (hlt b (by simp [dskBlocks])) hbm]; exact h.hdr
  · rw [hm]; simp [FE.en]
  · intro x hx
    simp only [List.mem_append, List.mem_cons] at hx
    rcases hx with hx | rfl | hx
    · exact hclk x (by simp [hx])
    · exact hclk g (by simp)
    · exact hclk x (by simp [hx])
  · show setF d.files g.name f.file = _
    rw [hset, nf_mid]
  · intro x hx
    simp only [List.mem_append, List.mem_cons] at hx
    rcases hx with hx | rfl | hx
    · exact keepX x (by simp [hx])
    · have h1 : f.At w' := hf.keep fun k hk => ho k (hflt k hk) (fun e => hdis k hk (by rw [e]; simp [dskBlocks]))
      exact ⟨h1.blk, h1.own⟩
    · exact keepX x (by simp [hx])
  · have e1 : dskBlocks b m (A ++ { f with name := g.name, born := g.born } :: B) = (b :: m :: A.flatMap FE.blocks) ++ (f.blocks ++ B.flatMap FE.blocks) := by simp [dskBlocks, FE.blocks]
    have e2 : dskBlocks b m (A ++ g :: B) = (b :: m :: A.flatMap FE.blocks) ++ (g.blocks ++ B.flatMap FE.blocks) := by simp [dskBlocks, FE.blocks]
    rw [e2] at hnd0 hdis
    rw [e1]
    simp only [List.nodup_append] at hnd0 ⊢
    obtain ⟨n1, ⟨n2, n3, n4⟩, n5⟩ := hnd0
    refine ⟨n1, ⟨hnd, n3, ?_⟩, ?_⟩
    · intro k hk c hc e
      exact hdis k hk (List.mem_append_right _ (List.mem_append_right _ (e ▸ hc)))
    · intro k hk c hc e
      rw [List.mem_append] at hc
      rcases hc with hc | hc
      · exact hdis c hc (List.mem_append_left _ (e ▸ hk))
      · exact n5 k hk c (List.mem_append_right _ hc) e
  · have : (A ++ { f with name := g.name, born := g.born } :: B).map FE.born = (A ++ g :: B).map FE.born := by simp
    rw [this]; exact h.born

/-- A disk behind Rename is one that may be. -/
theorem Dsk.Ok.rename {d : Dsk} (ok : d.Ok) {a t : Str} (ha : a ∈ namesF d.files) (ht : okName t = true) : ({ d with files := setF (delF d.files a) t (fileOf d.files a) } : Dsk).Ok := by
  rcases split_name a d.files with h | ⟨A, f, B, hd, hA⟩
  · exact absurd ha h
  · have hfo : fileOf d.files a = f := by rw [hd]; simp [fileOf, getF_hit hA]
    have hdl : delF d.files a = A ++ B := by rw [hd]; exact delF_hit hA
    have ok1 := ok.del hd
    have hus := ok.used
    rw [hd, usedF_mid] at hus
    have hsy := ok.synced (a, f) (by rw [hd]; simp)
    have hfew := ok.few
    rw [hd] at hfew
    rw [hdl, hfo]
    rcases split_name t (A ++ B) with h | ⟨A', g, B', hd', hA'⟩
    · rw [setF_miss h]
      refine ⟨ok.most0, ok.most1, ok.arm0, ok.arm1, ?_, ?_, ?_, ?_, ?_⟩
      · show (namesF ((A ++ B) ++ [(t, f)])).Nodup
        rw [namesF_append, List.nodup_append]
        refine ⟨ok1.names, by simp [namesF], ?_⟩
        intro x hx c hc e
        simp [namesF] at hc
        subst hc; subst e; exact h hx
      · intro k hk
        have hk' : k ∈ namesF ((A ++ B) ++ [(t, f)]) := hk
        rw [namesF_append, List.mem_append] at hk'
        rcases hk' with hk | hk
        · exact ok1.named k hk
        · simp [namesF] at hk; subst hk; exact ht
      · show ((A ++ B) ++ [(t, f)]).length ≤ 200
        simp at hfew ⊢; omega
      · show ((usedF ((A ++ B) ++ [(t, f)]) : Nat) : Int) ≤ d.most
        rw [usedF_append, usedF_append]
        simp only [usedF, List.map_cons, List.map_nil, List.sum_cons, List.sum_nil] at hus ⊢
        omega
      · intro x hx
        have hx' : x ∈ (A ++ B) ++ [(t, f)] := hx
        rw [List.mem_append] at hx'
        rcases hx' with hx | hx
        · exact ok1.synced x hx
        · simp at hx; subst hx; exact hsy
    · rw [hd', setF_hit hA']
      have h1 : ({ d with files := A ++ B } : Dsk).files = A' ++ (t, g) :: B' := hd'
      have := ok1.upd (g := f) h1 hsy (by
        have e : usedF (A ++ B) = usedF A' + g.bytes.length + usedF B' := by rw [hd', usedF_mid]
        rw [usedF_append] at e
        show ((usedF A' + f.bytes.length + usedF B' : Nat) : Int) ≤ d.most
        omega)
      exact this
end Go.Proofs.YtoikjiojhlfgiaaGreatDoor
