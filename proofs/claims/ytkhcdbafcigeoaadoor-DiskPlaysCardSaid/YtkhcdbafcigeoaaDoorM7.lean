/-
  Texts merged by a program of this claim's: DiskI, DiskJ, DiskK, DiskL.
-/
import Derived.Test.YtkhcdbafcigeoaaDoorM5
import Derived.Test.YtkhcdbafcigeoaaDoorM6
/-
  What an Append does.
-/
namespace Go.Proofs.YtkhcdbafcigeoaaDoor
open Go Go.RowKit Go.Sort
set_option maxRecDepth 100000
set_option maxHeartbeats 800000

theorem mayAppend_zero {d : Dsk} {n : Str} {l : List UInt8} (h : d.mayAppend n l = 0) : okName n = true ∧ (usedF d.files + l.length : Nat) ≤ d.most ∧ (n ∉ namesF d.files → d.files.length < 200) := by
  unfold Dsk.mayAppend at h
  split at h
  · rename_i hok
    split at h
    · exact absurd h (by decide)
    · rename_i hn
      exact ⟨hok, by omega, fun hm => by
        rcases Nat.lt_or_ge d.files.length 200 with h | h
        · exact h
        · exact absurd (.inr ⟨hm, h⟩) hn⟩
  · exact absurd h (by decide)

theorem slice_form {α : Type} {f : α → Value} {e : TypeId} {w : World} {v : Value} {l : List α} (h : RowF f e w v l) : ∃ a cap, v = .slice a l.length cap := by
  obtain ⟨a, cap, h, _⟩ := h.rd.len; exact ⟨a, cap, h⟩

/-- The disk's own block of a file's bytes is none of the others'. -/
theorem own_ne {w : World} {b m : Nat} {d : Dsk} {A B : List FE} {f : FE} (h : DiskAt w b m d (A ++ f :: B)) : f.sl.ownBlock ≠ some b ∧ f.sl.ownBlock ≠ some m ∧ f.sl.ownBlock ≠ some f.fb := by
  have hnd := h.nodup
  rw [dskBlocks_mid] at hnd
  refine ⟨fun e => ?_, fun e => ?_, fun e => ?_⟩ <;> rw [e] at hnd
  · exact (List.nodup_append.1 hnd).2.2 b (by simp) b (by simp) rfl
  · exact (List.nodup_append.1 hnd).2.2 m (by simp) m (by simp) rfl
  · exact (List.nodup_cons.1 (List.nodup_append.1 hnd).2.1).1 (by simp)

/-- What stands ahead of the last statement: the file is there. -/
structure Ready2 (w w3 : World) (b m : Nat) (d d3 : Dsk) (S : Nat → Prop) (n : Str) (l : List UInt8) (A B : List FE) (f : FE) : Prop where
  at3 : DiskAt w3 b m d3 (A ++ f :: B)
  name : f.name = n
  nA : n ∉ A.map FE.name
  ptr : ptrOf (A ++ f :: B) n = some ⟨f.fb, 0, none⟩
  goal : ({ d3 with files := setF d3.files n ⟨f.file.bytes ++ l, f.file.synced⟩ } : Dsk) = { d with files := setF d.files n ⟨(fileOf d.files n).bytes ++ l, (fileOf d.files n).synced⟩ }
  only : Only S w w3
  blocks : ∀ k ∈ dskBlocks b m (A ++ f :: B), S k ∨ w.heap.size ≤ k
  used : (usedF (A.map FE.nf) + (f.file.bytes ++ l).length + usedF (B.map FE.nf) : Nat) ≤ d3.most
  synced : f.file.synced ≤ f.file.bytes.length

theorem ptrOf_new {A : List FE} {f : FE} {B : List FE} (hA : f.name ∉ A.map FE.name) : ptrOf (A ++ f :: B) f.name = some ⟨f.fb, 0, none⟩ := by
  have hn : A.find? (·.name == f.name) = none := by
    rw [List.find?_eq_none]
    intro g hg hc
    exact hA (List.mem_map.2 ⟨g, hg, by simpa using hc⟩)
  simp [ptrOf, List.find?_append, hn]

theorem Append2_ok {w : World} {b : Nat} {d : Dsk} {S : Nat → Prop} (h : DiskIn w b d S) (n : Str) (l : List UInt8) (pn pd pb : Nat) (src : Value)
    (hn : w.cell? ⟨pn, 0, none⟩ = some (.string ⟨n.toArray⟩)) (hd : w.cell? ⟨pd, 0, none⟩ = some (.pointer (some ⟨b, 0, none⟩))) (hb : w.cell? ⟨pb, 0, none⟩ = some src) (hs : Bs w src l)
    (hsep : l ≠ [] → ∀ g, src.ownBlock = some g → ¬ S g) (hpn : ¬ S pn) (hpd : ¬ S pd) (hpb : ¬ S pb)
    (hmay : d.mayAppend n l = 0) :
    Calls Tryd.prog 36 #[.pointer (some ⟨pd, 0, none⟩), .pointer (some ⟨pn, 0, none⟩), .pointer (some ⟨pb, 0, none⟩)] w fun e w' =>
      e = .returned (.tuple #[]) ∧ DiskTo S w w' b { d with files := setF d.files n ⟨(fileOf d.files n).bytes ++ l, (fileOf d.files n).synced⟩ } := by
  obtain ⟨m, fs, hD, hS⟩ := h
  obtain ⟨i0, hi, hz0, hz1, hz2⟩ := info_parts Tryd.infoByte
  obtain ⟨c0, c1, -, -, -⟩ := hdr_cells hD.hdr
  obtain ⟨clock, hmap, hclk⟩ := hD.map
  obtain ⟨hok, hroom, hfew⟩ := mayAppend_zero hmay
  have hmost := hD.ok.most1
  obtain ⟨sa, sc, rfl, hll⟩ := hs.len
  have hpnl : pn < w.heap.size := World.block_lt_of_cell? w _ hn
  have hpdl : pd < w.heap.size := World.block_lt_of_cell? w _ hd
  have hpbl : pb < w.heap.size := World.block_lt_of_cell? w _ hb
  have d0 := cellG hn
  have d1 := cellG hd
  have d3 := cellG c0
  have hlk : ∀ p : Regrown, (Instr.lookup 55 (.map (some m)) (.string ⟨n.toArray⟩) false).run Tryd.prog (grow (redrawn w p.d) p.os) = .ok (.pointer (ptrOf fs n)) (grow (redrawn w p.d) p.os) := fun p =>
    look_file ((Nw.of_regrown ⟨p, rfl⟩ : Nw w _).at_ hmap) n
  rcases ptrOf_spec hD n with hcs | hcs
  case' inl =>
    obtain ⟨hnn, hp, hg⟩ := hcs
    rw [hp] at hlk
    have HP := Lib.hid hp
    have HM := Lib.hid hmap
    have HCLK := Lib.hid hclk
    have HG := Lib.hid hg
    clear hp hmap hclk hg
    go_enter Tryd.func36, Tryd.ntmps36
    go_wp2
    refine wp_region_quiet_below (by kernel_rfl) (by kernel_rfl) ?_
    repeat (first | go_big_quiet_step (fail) | quiet_step (fail))
    refine wpQuiet_nil ?_
    intro w1 hw1
    have hw1 := Nw.of_regrown hw1
    clear hlk d0 d1 d3
    have n1 := hw1.cell hn
    have e1 := hw1.cell hd
    have b1 := hw1.cell hb
    have s1 := Lib.hid (hs.nw hw1)
    have m1 := hw1.at_ HM.out
    have D1 := Lib.hid (hD.keep (w' := w1) fun k hk => hw1.block k (hD.lt k hk) (fun hf => hf))
    have k0 := hw1.cell c0
    have HN := Lib.hid hw1
    clear hn hd hb hs HM hD c0 c1 hw1
    go_wp2
    have g0 : ∀ p : InC (Nw w1), p.w.cell? ⟨pn, 0, none⟩ = some (.string ⟨n.toArray⟩) := fun p => p.h.cell n1
    have g1 : ∀ p : InC (Nw w1), p.w.cell? ⟨pd, 0, none⟩ = some (.pointer (some ⟨b, 0, none⟩)) := fun p => p.h.cell e1
    have g2 : ∀ p : InC (Nw w1), p.w.cell? ⟨b, 0, none⟩ = some (.map (some m)) := fun p => p.h.cell k0
    refine wp_region_in 7 [0, 1, 2, 3, 4, 5] [6, 7] (Nw w1) (by kernel_rfl) (by kernel_rfl) (fun _ _ _ _ _ h => h) ((Nw.refl _).drew) ?_
    repeat (refine wpReads_cons rfl (fun K hK => ?_); go_simp; first | (refine hK _ ?_; clear hK K) | (refine ⟨_, fun _ => rfl, ?_⟩; refine hK _ ?_; clear hK K))
    refine wpReads_nil ?_
    refine wpNums_cons rfl ?_
    go_wp2
    refine ⟨fun _ => ⟨⟨_, ((Nw.refl _).alloc _).drew⟩, rfl⟩, ?_⟩
    have hw2 : Nw w1 (w1.alloc (.cells #[.slice none 0 0, .int .i64 0] 68)).drew := ((Nw.refl _).alloc _).drew
    have hkn : n ∉ (fs.map FE.en).map En.key := by
      have h := hnn; rw [D1.out.files, names_of_FE] at h
      rw [List.map_map]; exact h
    have hst := run_store_miss (P := Tryd.prog) (L := fs.map FE.en) Tryd.underlying55 Tryd.underlying9 (hw2.at_ m1) (k := n) hkn (.pointer (some ⟨w1.heap.size, 0, none⟩))
    clear g0 g1 g2
    have HW2 := Lib.hid hw2
    have HKN := Lib.hid hkn
    clear hw2 hkn
    refine wpNums_cons rfl ?_
    go_wp2
    refine ⟨fun h => absurd h (by omega), ?_⟩
    refine wpNums_nil ?_
    have hsz2 : (w1.alloc (.cells #[.slice none 0 0, .int .i64 0] 68)).drew.heap.size = w1.heap.size + 1 := by simp
    have hm3 := setBlk_same (o' := .map (ents (fs.map FE.en ++ [⟨n, .pointer (some ⟨w1.heap.size, 0, none⟩), clock⟩])) (clock + 1)) (HW2.out.at_ m1)
    have ho3 : Only (fun k => k = m) w1 (World.setBlk (w1.alloc (.cells #[.slice none 0 0, .int .i64 0] 68)).drew m (.map (ents (fs.map FE.en ++ [⟨n, .pointer (some ⟨w1.heap.size, 0, none⟩), clock⟩])) (clock + 1))) :=
      Only.setBlk (S := fun k => k = m) HW2.out.only (fun _ => rfl) _
    have hmw : m < w1.heap.size := lt_of_block m1
    have hfb3 : (World.setBlk (w1.alloc (.cells #[.slice none 0 0, .int .i64 0] 68)).drew m (.map (ents (fs.map FE.en ++ [⟨n, .pointer (some ⟨w1.heap.size, 0, none⟩), clock⟩])) (clock + 1))).heap[w1.heap.size]? = some (.cells #[.slice none 0 0, .int .i64 0] 68 (0, 0)) := by
      rw [setBlk_other (by omega)]; exact heap_alloc_new w1 _
    have hsz3 : (World.setBlk (w1.alloc (.cells #[.slice none 0 0, .int .i64 0] 68)).drew m (.map (ents (fs.map FE.en ++ [⟨n, .pointer (some ⟨w1.heap.size, 0, none⟩), clock⟩])) (clock + 1))).heap.size = w1.heap.size + 1 := by rw [setBlk_size]; simp
    generalize World.setBlk (w1.alloc (.cells #[.slice none 0 0, .int .i64 0] 68)).drew m (.map (ents (fs.map FE.en ++ [⟨n, .pointer (some ⟨w1.heap.size, 0, none⟩), clock⟩])) (clock + 1)) = w3 at hm3 ho3 hfb3 hsz3 ⊢
    have hD1 := D1.out
    have hnA : n ∉ fs.map FE.name := by have h := hnn; rwa [hD1.files, names_of_FE] at h
    have hR : Ready2 w w3 b m d { d with files := d.files ++ [(n, ⟨[], 0⟩)] } S n l fs [] ⟨n, ⟨[], 0⟩, w1.heap.size, .slice none 0 0, clock⟩ := by
      refine ⟨hD1.add n w1.heap.size HCLK.out hm3 hfb3 (Nat.le_refl _) (fun k hk hkm => ho3.block k hk hkm) hnn hok (hfew hnn), rfl, hnA, ptrOf_new hnA, ?_, ?_, ?_, ?_, Nat.le_refl _⟩
      · have e1 : setF d.files n ⟨(fileOf d.files n).bytes ++ l, (fileOf d.files n).synced⟩ = d.files ++ [(n, ⟨[] ++ l, 0⟩)] := by
          rw [setF_miss hnn]; simp [fileOf, HG.out]
        rw [e1]
        show ({ d with files := setF (d.files ++ [(n, ⟨[], 0⟩)]) n ⟨[] ++ l, 0⟩ } : Dsk) = _
        rw [setF_hit hnn]
      · exact HN.out.only.trans (ho3.mono fun k _ e => by subst e; exact (hS _).2 (by simp [dskBlocks]))
      · intro k hk
        have : dskBlocks b m (fs ++ [⟨n, ⟨[], 0⟩, w1.heap.size, .slice none 0 0, clock⟩]) = dskBlocks b m fs ++ [w1.heap.size] := by simp [dskBlocks, FE.blocks, Value.ownBlock]
        rw [this, List.mem_append] at hk
        rcases hk with hk | hk
        · exact .inl ((hS k).2 hk)
        · simp at hk; subst hk; exact .inr HN.out.size
      · have := hroom
        rw [hD1.files] at this
        simpa [usedF] using this
    have R : Hid (∃ d3 A B f, Ready2 w w3 b m d d3 S n l A B f) := ⟨_, _, _, _, hR⟩
    have n3 := ho3.cell n1 (fun e => hpn ((show pn = m from e) ▸ (hS m).2 (by simp [dskBlocks])))
    have e3 := ho3.cell e1 (fun e => hpd ((show pd = m from e) ▸ (hS m).2 (by simp [dskBlocks])))
    have b3 := ho3.cell b1 (fun e => hpb ((show pb = m from e) ▸ (hS m).2 (by simp [dskBlocks])))
    have s3 := Lib.hid (s1.out.keep ho3 (fun hne g hg e => hsep hne g hg (e ▸ (hS m).2 (by simp [dskBlocks]))))
    clear hD1 hnA hR hst HW2 HKN hm3 ho3 hfb3 hsz3 hsz2 hmw n1 e1 b1 s1 m1 k0 HP HG HCLK HN D1
    clear clock
  case' inr =>
    obtain ⟨A, f, B, hfs, hfn, hnA, hp, hnn, hg⟩ := hcs
    rw [hp] at hlk
    have HM := Lib.hid hmap
    clear hmap hclk
    go_enter Tryd.func36, Tryd.ntmps36
    go_wp2
    refine wp_region_quiet_below (by kernel_rfl) (by kernel_rfl) ?_
    repeat (first | go_big_quiet_step (fail) | quiet_step (fail))
    refine wpQuiet_nil ?_
    intro w3 hw1
    have hw1 := Nw.of_regrown hw1
    clear hlk d0 d1 d3
    have n3 := hw1.cell hn
    have e3 := hw1.cell hd
    have b3 := hw1.cell hb
    have s3 := Lib.hid (hs.nw hw1)
    have hf := hD.file f (by rw [hfs]; simp)
    have hfo : fileOf d.files n = f.file := by simp [fileOf, hg]
    have hmem : d.files = A.map FE.nf ++ (f.name, f.file) :: B.map FE.nf := by rw [hD.files, hfs, nf_mid]
    have hR : Ready2 w w3 b m d d S n l A B f := by
      refine ⟨?_, hfn, hnA, ?_, by rw [hfo], hw1.only, fun k hk => .inl ((hS k).2 (by rw [hfs]; exact hk)), ?_, ?_⟩
      · rw [← hfs]; exact hD.keep (w' := w3) fun k hk => hw1.block k (hD.lt k hk) (fun hf => hf)
      · rw [← hfs]; exact hp
      · have := hroom
        rw [hmem, usedF_mid] at this
        rw [List.length_append]; omega
      · exact hD.ok.synced (f.name, f.file) (by rw [hmem]; simp)
    have R : Hid (∃ d3 A B f, Ready2 w w3 b m d d3 S n l A B f) := ⟨_, _, _, _, hR⟩
    clear hR hf hfo hmem hn hd hb hs hD c0 c1 hw1 hfs hfn hnA hp hg HM hnn
  all_goals
    go_wp2
    obtain ⟨d3, A', B', f', hR⟩ := R.out
    have hD3 := hR.at3
    have hbl := hR.blocks
    obtain ⟨k3, -, -, -, -⟩ := hdr_cells hD3.hdr
    obtain ⟨clk, map3, -⟩ := hD3.map
    have hf3 := hD3.mem
    obtain ⟨fa, fc, hsl⟩ := slice_form hf3.own
    have f0 : w3.cell? ⟨f'.fb, 0, none⟩ = some f'.sl := by simp [World.cell?, hf3.blk]
    obtain ⟨nb, nm, nf⟩ := own_ne hD3
    have hne : ∀ x : Nat, ¬ S x → x < w.heap.size → f'.sl.ownBlock ≠ some x := fun x hx hlt e => by
      rcases hbl x (by rw [dskBlocks_mid]; simp [e]) with h | h
      · exact hx h
      · omega
    have n4 := hne pn hpn hpnl
    have d4 := hne pd hpd hpdl
    have b4 := hne pb hpb hpbl
    have fused := hR.used
    have hmost3 := hD3.ok.most1
    rw [List.length_append] at fused
    have hl1 : f'.file.bytes.length + l.length ≤ 16777216 := by omega
    have hrow : RowF u8 5 w3.drew (.slice fa f'.file.bytes.length fc) f'.file.bytes := by rw [← hsl]; exact hf3.own.keep (fun g hg => rfl)
    have hsrc : Rd u8 w3.drew (.slice sa l.length sc) l := s3.out.nw ((Nw.refl w3).drew)
    have hown : (Value.slice fa f'.file.bytes.length fc).ownBlock = f'.sl.ownBlock := by rw [hsl]
    rw [hsl] at f0
    have hlk3 : ∀ p : InC (Only (fun k => f'.sl.ownBlock = some k) w3), (Instr.lookup 55 (.map (some m)) (.string ⟨n.toArray⟩) false).run Tryd.prog p.w = .ok (.pointer (some ⟨f'.fb, 0, none⟩)) p.w := fun p => by
      rw [← hR.ptr]; exact look_file (p.h.at_ map3 nm) n
    have g0 : ∀ p : InC (Only (fun k => f'.sl.ownBlock = some k) w3), p.w.cell? ⟨pn, 0, none⟩ = some (.string ⟨n.toArray⟩) := fun p => p.h.cell n3 n4
    have g1 : ∀ p : InC (Only (fun k => f'.sl.ownBlock = some k) w3), p.w.cell? ⟨pd, 0, none⟩ = some (.pointer (some ⟨b, 0, none⟩)) := fun p => p.h.cell e3 d4
    have g2 : ∀ p : InC (Only (fun k => f'.sl.ownBlock = some k) w3), p.w.cell? ⟨b, 0, none⟩ = some (.map (some m)) := fun p => p.h.cell k3 nb
    have g3 : ∀ p : InC (Only (fun k => f'.sl.ownBlock = some k) w3), p.w.cell? ⟨pb, 0, none⟩ = some (.slice sa l.length sc) := fun p => p.h.cell b3 b4
    have g4 : ∀ p : InC (Only (fun k => f'.sl.ownBlock = some k) w3), p.w.cell? ⟨f'.fb, 0, none⟩ = some (.slice fa f'.file.bytes.length fc) := fun p => p.h.cell f0 nf
    have HR := Lib.hid hR
    have HD := Lib.hid hD3
    have HF := Lib.hid hf3
    have HS := Lib.hid hsl
    have HW := Lib.hid hown
    have HB := Lib.hid hbl
    have HROW := Lib.hid hrow
    have HSRC := Lib.hid hsrc
    have HNF := Lib.hid nf
    have HF0 := Lib.hid f0
    clear hR hD3 hf3 hsl hown hbl hrow hsrc nb nm nf hne n4 d4 b4 k3 map3 n3 e3 b3 f0 R hmay hroom hfew hsep hpn hpd hpb hpnl hpdl hpbl fused
    refine wp_region_in 19 [0, 1, 2, 3, 4, 5, 6, 7, 8, 9, 10, 11, 12, 13, 14, 15] [16, 17, 18, 19] (Only (fun k => f'.sl.ownBlock = some k) w3) (by kernel_rfl) (by kernel_rfl) (fun _ _ _ _ _ h => h) ((Only.refl _).drew) ?_
    repeat (refine wpReads_cons rfl (fun K hK => ?_); go_simp; first | (refine hK _ ?_; clear hK K) | (refine ⟨_, fun _ => rfl, ?_⟩; refine hK _ ?_; clear hK K))
    refine wpReads_nil ?_
    refine wpNums_cons rfl ?_
    refine wpList_append_row u8_one rfl _ _ 33 rfl 5 i0 (.int .u8 0) 1 Tryd.underlying33 hi hz0 hz1 hz2 rfl rfl rfl HROW.out HSRC.out (by unfold maxLen; omega) (by omega) ?_
    intro v' w4 hr4 ho4 hfr hnil
    obtain ⟨va, vc, rfl⟩ := slice_form hr4
    have hC4 : Only (fun k => f'.sl.ownBlock = some k) w3 w4 := ((Only.refl w3).drew).trans (by rw [← HW.out]; exact ho4)
    have HR4 := Lib.hid hr4
    have HFR := Lib.hid hfr
    have HC4 := Lib.hid hC4
    have f4 : w4.heap[f'.fb]? = some (.cells #[f'.sl, .int .i64 f'.file.synced] 68 (0, 0)) := hC4.at_ HF.out.blk HNF.out
    have q1 : w4.cell? ⟨f'.fb, 0, none⟩ = some (.slice fa f'.file.bytes.length fc) := by rw [← HS.out]; simp [World.cell?, f4]
    have q2 : w4.frozen? ⟨f'.fb, 0, none⟩ = false := by simp [World.frozen?, f4]
    have HF4 := Lib.hid f4
    clear hr4 ho4 hfr hnil hC4 f4 hlk3 g0 g1 g2 g3 g4
    refine wpList_nil ?_
    go_wp2
    refine ⟨fun _ => ⟨⟨w4, HC4.out⟩, rfl⟩, ?_⟩
    refine wpNums_cons rfl ?_
    go_wp2
    refine ⟨fun _ => ⟨⟨w4, HC4.out⟩, rfl⟩, ?_⟩
    refine wpNums_cons rfl ?_
    go_wp2
    refine ⟨fun _ => ⟨⟨w4, HC4.out⟩, rfl⟩, ?_⟩
    refine wpNums_cons rfl ?_
    go_wp2
    refine ⟨fun h => absurd h (by omega), ?_⟩
    refine wpNums_nil ?_
    go_wp2
    refine bodyPost_end (results_none rfl _ _ _) rfl ⟨rfl, ?_⟩
    have hlen : (Value.slice va (f'.file.bytes.length + l.length) vc) = .slice va (f'.file.bytes ++ l).length vc := by rw [List.length_append]
    rw [hlen]
    have hf3l : f'.fb < w3.heap.size := lt_of_block HF.out.blk
    have hsl' : (Value.slice va (f'.file.bytes ++ l).length vc).ownBlock = f'.sl.ownBlock ∨ ∀ k, (Value.slice va (f'.file.bytes ++ l).length vc).ownBlock = some k → w3.heap.size ≤ k := by
      rcases HFR.out with h | h
      · exact .inl (h.trans HW.out)
      · exact .inr h
    have hto := HD.out.upd (w' := w4.setCell ⟨f'.fb, 0, none⟩ (.slice va (f'.file.bytes ++ l).length vc)) ⟨f'.file.bytes ++ l, f'.file.synced⟩ (.slice va (f'.file.bytes ++ l).length vc)
      (fun k hk hn => by
        simp only [FE.blocks, List.mem_cons, Option.mem_toList, not_or] at hn
        rw [Below.heap_setCell _ _ _ _ hn.1]; exact HC4.out.block k hk hn.2)
      ⟨by rw [heap_setCell_at HF4.out 0 _]; simp, HR4.out.keep fun g hg => by
        rw [Below.heap_setCell]
        rintro e
        have e' : g = f'.fb := e
        rcases hsl' with h | h
        · exact HNF.out (by rw [← h, hg, e'])
        · have := h g hg; omega⟩
      hsl' (by rw [HR.out.name]; exact HR.out.nA) (by show f'.file.synced ≤ (f'.file.bytes ++ l).length; rw [List.length_append]; have := HR.out.synced; omega) HR.out.used
    have hto0 := hto
    have hgoal := HR.out.goal
    have hto' : DiskAt (w4.setCell ⟨f'.fb, 0, none⟩ (.slice va (f'.file.bytes ++ l).length vc)) b m { d with files := setF d.files n ⟨(fileOf d.files n).bytes ++ l, (fileOf d.files n).synced⟩ } (A' ++ { f' with file := ⟨f'.file.bytes ++ l, f'.file.synced⟩, sl := .slice va (f'.file.bytes ++ l).length vc } :: B') := by rw [← hgoal, ← HR.out.name]; exact hto0
    refine ⟨_, ⟨m, _, hto', fun k => Iff.rfl⟩, ?_, ?_⟩
    · refine HR.out.only.trans' ((HC4.out.mono (T := fun k => k ∈ f'.blocks) fun k _ e => by simp [FE.blocks, e]).setCell (fun _ => by simp [FE.blocks]) _) fun k hk hkf => ?_
      rcases HB.out k (by simp only [dskBlocks, List.mem_cons, List.mem_flatMap]; exact .inr (.inr ⟨f', by simp, hkf⟩)) with h | h
      · exact h
      · omega
    · intro k hk
      rcases blocks_upd hsl' k hk with h | h
      · exact HB.out k h
      · exact .inr (Nat.le_trans HR.out.only.size h)
end Go.Proofs.YtkhcdbafcigeoaaDoor

/-
  Append, whole.
-/
namespace Go.Proofs.YtkhcdbafcigeoaaDoor
open Go Go.RowKit Go.Sort
set_option maxRecDepth 100000
set_option maxHeartbeats 800000

theorem DiskIn.out {S : Nat → Prop} {w : World} {b : Nat} {d : Dsk} (h : DiskIn w b d S) {x : Nat} (hx : w.heap.size ≤ x) : ¬ S x := fun hs => by
  have := h.lt x hs; omega

theorem en51 : Enters Tryd.prog 34 := enters_of Tryd.func34 (by kernel_rfl) (by kernel_rfl)
theorem en53 : Enters Tryd.prog 36 := enters_of Tryd.func36 (by kernel_rfl) (by kernel_rfl)

/-- What a call that may turn the disk leaves. -/
def Turns (S : Nat → Prop) (w : World) (b : Nat) (r : Dsk × Int) (e : Ending) (w' : World) : Prop := e = .returned (.int .i64 r.2) ∧ DiskTo S w w' b r.1

theorem Append_ok {w : World} {b : Nat} {d : Dsk} {S : Nat → Prop} (h : DiskIn w b d S) (n : Str) (l : List UInt8) (src : Value) (hs : Bs w src l) (hsep : l ≠ [] → ∀ g, src.ownBlock = some g → ¬ S g)
    (hnl : n.length ≤ 9223372036854775807) (hll : l.length ≤ 140737488355328) :
    Calls Tryd.prog 7 #[.pointer (some ⟨b, 0, none⟩), .string ⟨n.toArray⟩, src] w (Turns S w b (d.append n l)) := by
  obtain ⟨sa, sc, rfl, -⟩ := hs.len
  have hwB : Nw w (((w.alloc (.cells #[.pointer (some ⟨b, 0, none⟩)] 23)).alloc (.cells #[.string ⟨n.toArray⟩] 9)).alloc (.cells #[.slice sa l.length sc] 33)) := (((Nw.refl w).alloc _).alloc _).alloc _
  have hB := h.nw hwB
  have f1 : ¬ S w.heap.size := h.out (Nat.le_refl _)
  have f2 : ¬ S (w.heap.size + 1) := h.out (by omega)
  have f3 : ¬ S (w.heap.size + 1 + 1) := h.out (by omega)
  have c1 : (((w.alloc (.cells #[.pointer (some ⟨b, 0, none⟩)] 23)).alloc (.cells #[.string ⟨n.toArray⟩] 9)).alloc (.cells #[.slice sa l.length sc] 33)).cell? ⟨w.heap.size, 0, none⟩ = some (.pointer (some ⟨b, 0, none⟩)) := by
    simp [go_sem]
  have c2 : (((w.alloc (.cells #[.pointer (some ⟨b, 0, none⟩)] 23)).alloc (.cells #[.string ⟨n.toArray⟩] 9)).alloc (.cells #[.slice sa l.length sc] 33)).cell? ⟨w.heap.size + 1, 0, none⟩ = some (.string ⟨n.toArray⟩) := by
    simp [go_sem]
  have c3 : (((w.alloc (.cells #[.pointer (some ⟨b, 0, none⟩)] 23)).alloc (.cells #[.string ⟨n.toArray⟩] 9)).alloc (.cells #[.slice sa l.length sc] 33)).cell? ⟨w.heap.size + 1 + 1, 0, none⟩ = some (.slice sa l.length sc) := by
    simp [go_sem]
  have H := operation_ok hB 34 36 #[.pointer (some ⟨w.heap.size + 1, 0, none⟩), .pointer (some ⟨w.heap.size, 0, none⟩), .pointer (some ⟨w.heap.size + 1 + 1, 0, none⟩)]
    #[.pointer (some ⟨w.heap.size, 0, none⟩), .pointer (some ⟨w.heap.size + 1, 0, none⟩), .pointer (some ⟨w.heap.size + 1 + 1, 0, none⟩)] (d.mayAppend n l) (fun L => setF L n ⟨(fileOf L n).bytes ++ l, (fileOf L n).synced⟩) en51 en53
    (fun _ => Append1_ok hB n l _ _ _ _ c2 c1 c3 (hs.nw hwB) hnl hll)
    (fun hm _ w1 ho hd => Append2_ok hd n l _ _ _ _ (ho.cell c2 f2) (ho.cell c1 f1) (ho.cell c3 f3) ((hs.nw hwB).keep ho hsep) hsep f2 f1 f3 hm)
  have HH := Lib.hid H
  have HW := Lib.hid hwB
  clear H hwB hB h hs hsep c1 c2 c3 f1 f2 f3
  go_enter Tryd.func7, Tryd.ntmps7
  go_wp2_with (go_at_call 33; refine HH.out.mono ?_)
  rintro e w2 ⟨rfl, hw2⟩
  go_wp2
  go_ret
  exact ⟨rfl, DiskTo.trans HW.out.only hw2⟩
end Go.Proofs.YtkhcdbafcigeoaaDoor

/-
  Sync and Cut: what they do, and whole.
-/
namespace Go.Proofs.YtkhcdbafcigeoaaDoor
open Go Go.RowKit Go.Sort
set_option maxRecDepth 100000
set_option maxHeartbeats 800000

/-- The file, where it is there. -/
theorem there_split {w : World} {b m : Nat} {d : Dsk} {fs : List FE} (hD : DiskAt w b m d fs) {n : Str} (h : d.there n = 0) :
    ∃ A f B, fs = A ++ f :: B ∧ f.name = n ∧ n ∉ A.map FE.name ∧ ptrOf fs n = some ⟨f.fb, 0, none⟩ ∧ fileOf d.files n = f.file ∧ d.files = A.map FE.nf ++ (n, f.file) :: B.map FE.nf := by
  rcases ptrOf_spec hD n with ⟨hnn, -, -⟩ | ⟨A, f, B, hfs, hfn, hnA, hp, -, hg⟩
  · simp [Dsk.there, hnn] at h
  · exact ⟨A, f, B, hfs, hfn, hnA, hp, by simp [fileOf, hg], by rw [hD.files, hfs, nf_mid, hfn]⟩

/-- A file is turned, its bytes' row is another cut of the same one or is new: from memory to memory. -/
theorem turn_file {w w1 w2 : World} {b m : Nat} {d : Dsk} {A B : List FE} {f : FE} {S : Nat → Prop} {n : Str} (hD : DiskAt w b m d (A ++ f :: B)) (hS : ∀ k, S k ↔ k ∈ dskBlocks b m (A ++ f :: B)) (hw1 : Nw w w1)
    (hfn : f.name = n) (hnA : n ∉ A.map FE.name) (g : DFile) (sl : Value)
    (ho : ∀ k, k < w1.heap.size → k ∉ f.blocks → w2.heap[k]? = w1.heap[k]?) (ho2 : Only (fun k => k ∈ f.blocks) w1 w2)
    (hf : FE.At w2 { f with file := g, sl := sl }) (hsl : sl.ownBlock = f.sl.ownBlock ∨ ∀ k, sl.ownBlock = some k → w1.heap.size ≤ k)
    (hs : g.synced ≤ g.bytes.length) (hu : g.bytes.length ≤ f.file.bytes.length) : DiskTo S w w2 b { d with files := setF d.files n g } := by
  have hD1 : DiskAt w1 b m d (A ++ f :: B) := hD.keep fun k hk => hw1.block k (hD.lt k hk) (fun hf => hf)
  have hused := hD.ok.used
  rw [hD.files, nf_mid, usedF_mid] at hused
  have hto := hD1.upd g sl ho hf hsl (by rw [hfn]; exact hnA) hs (by omega)
  rw [hfn] at hto
  refine ⟨_, ⟨m, _, hto, fun k => Iff.rfl⟩, ?_, ?_⟩
  · exact hw1.only.trans (ho2.mono fun k _ hk => (hS k).2 (by simp only [dskBlocks, List.mem_cons, List.mem_flatMap]; exact .inr (.inr ⟨f, by simp, hk⟩)))
  · intro k hk
    have hk' : k ∈ dskBlocks b m (A ++ { f with file := g, sl := sl } :: B) := by rw [hfn] at *; exact hk
    rcases blocks_upd hsl k hk' with h | h
    · exact .inl ((hS k).2 h)
    · exact .inr (Nat.le_trans hw1.size h)

theorem Sync2_ok {w : World} {b : Nat} {d : Dsk} {S : Nat → Prop} (h : DiskIn w b d S) (n : Str) (pn pd : Nat)
    (hn : w.cell? ⟨pn, 0, none⟩ = some (.string ⟨n.toArray⟩)) (hd : w.cell? ⟨pd, 0, none⟩ = some (.pointer (some ⟨b, 0, none⟩))) (hth : d.there n = 0) :
    Calls Tryd.prog 44 #[.pointer (some ⟨pd, 0, none⟩), .pointer (some ⟨pn, 0, none⟩)] w fun e w' =>
      e = .returned (.tuple #[]) ∧ DiskTo S w w' b { d with files := setF d.files n ⟨(fileOf d.files n).bytes, (fileOf d.files n).bytes.length⟩ } := by
  obtain ⟨m, fs, hD, hS⟩ := h
  obtain ⟨c0, c1, -, -, -⟩ := hdr_cells hD.hdr
  obtain ⟨clock, hmap, hclk⟩ := hD.map
  obtain ⟨A, f, B, rfl, hfn, hnA, hp, hfo, -⟩ := there_split hD hth
  rw [hfo]
  have hf := hD.mem
  obtain ⟨fa, fc, hsl⟩ := slice_form hf.own
  have d0 := cellG hn
  have d1 := cellG hd
  have d3 := cellG c0
  have f0 : w.cell? ⟨f.fb, 0, none⟩ = some (.slice fa f.file.bytes.length fc) := by rw [← hsl]; simp [World.cell?, hf.blk]
  have d4 := cellG f0
  have hlk : ∀ p : Regrown, (Instr.lookup 55 (.map (some m)) (.string ⟨n.toArray⟩) false).run Tryd.prog (grow (redrawn w p.d) p.os) = .ok (.pointer (some ⟨f.fb, 0, none⟩)) (grow (redrawn w p.d) p.os) := fun p => by
    rw [← hp]; exact look_file ((Nw.of_regrown ⟨p, rfl⟩ : Nw w _).at_ hmap) n
  have HD := Lib.hid hD
  have HS := Lib.hid hS
  have HF := Lib.hid hf
  have HN := Lib.hid hfn
  have HA := Lib.hid hnA
  clear hD hS hf hfn hnA hp hfo hsl hmap hclk hn hd c0 c1 f0 hth
  go_enter Tryd.func44, Tryd.ntmps44
  refine wp_region_tail_below 16 (by kernel_rfl) (by kernel_rfl) ?_
  simp only [List.take_succ_cons, List.take_zero, List.drop_succ_cons, List.drop_zero]
  repeat (first | go_big_quiet_step (fail) | quiet_step (fail))
  refine wpQuiet_nil ?_
  intro w1 hw1
  have hw1 := Nw.of_regrown hw1
  have hb1 := hw1.at_ HF.out.blk
  have q1 : w1.cell? ⟨f.fb, 1, none⟩ = some (.int .i64 f.file.synced) := by simp [World.cell?, hb1]
  have q2 : w1.frozen? ⟨f.fb, 1, none⟩ = false := by simp [World.frozen?, hb1]
  have HB := Lib.hid hb1
  have HW := Lib.hid hw1
  clear hlk d0 d1 d3 d4 hb1 hw1
  go_wp2
  refine bodyPost_end (results_none rfl _ _ _) rfl ⟨rfl, ?_⟩
  refine turn_file HD.out HS.out HW.out HN.out HA.out ⟨f.file.bytes, f.file.bytes.length⟩ f.sl ?_ ?_ ⟨?_, ?_⟩ (.inl rfl) (Nat.le_refl _) (Nat.le_refl _)
  · intro k hk hkn
    simp only [FE.blocks, List.mem_cons, not_or] at hkn
    rw [Below.heap_setCell _ _ _ _ hkn.1]
  · exact (Only.refl w1).setCell (fun _ => by simp [FE.blocks]) _
  · rw [heap_setCell_at HB.out 1 _]; simp
  · refine (HF.out.own.keep (w' := w1) fun g hg => HW.out.block g (HF.out.own.lt g hg) (fun hf => hf)).keep fun g hg => ?_
    rw [Below.heap_setCell]
    intro e
    exact (own_ne HD.out).2.2 (by rw [hg]; exact congrArg some e)
end Go.Proofs.YtkhcdbafcigeoaaDoor

/-
  Cut: what it does.
-/
namespace Go.Proofs.YtkhcdbafcigeoaaDoor
open Go Go.RowKit Go.Sort
set_option maxRecDepth 100000
set_option maxHeartbeats 800000

theorem left_ok {w : World} {fb L c k : Nat} {fa : Option Addr} {y : Int} (hb : w.heap[fb]? = some (.cells #[.slice fa L c, .int .i64 y] 68 (0, 0))) (hk : k ≤ L) (hL : L ≤ c) (_hc : c ≤ 9223372036854775807) (_hn : fa = none → c = 0) :
    Calls Tryd.prog 52 #[.pointer (some ⟨fb, 0, none⟩), .int .i64 k] w fun e w' => e = .returned (.tuple #[]) ∧ w' = (w.setCell ⟨fb, 0, none⟩ (.slice fa k k)).setCell ⟨fb, 1, none⟩ (.int .i64 k) := by
  have q0 : w.cell? ⟨fb, 0, none⟩ = some (.slice fa L c) := by simp [World.cell?, hb]
  have q1 : w.cell? ⟨fb, 1, none⟩ = some (.int .i64 y) := by simp [World.cell?, hb]
  have q2 : ∀ i, w.frozen? ⟨fb, i, none⟩ = false := by simp [World.frozen?, hb]
  have hkc : k ≤ c := by omega
  clear hb
  go_enter Tryd.func52, Tryd.ntmps52
  go_wp2
  exact bodyPost_end (results_none rfl _ _ _) rfl ⟨rfl, rfl⟩

theorem left_row {w : World} {v : Value} {l : List UInt8} {e : TypeId} {fa : Option Addr} {c : Nat} (h : RowF u8 e w v l) (hv : v = .slice fa l.length c) (k : Nat) (hk : k ≤ l.length) :
    RowF u8 e w (.slice fa k k) (l.take k) ∧ (Value.slice fa k k).ownBlock = v.ownBlock ∧ l.length ≤ c ∧ c ≤ maxLen ∧ (fa = none → c = 0) := by
  rcases h with ⟨rfl, rfl⟩ | ⟨g, cap, cur, rfl, h1, h2, h3, h4, h5⟩
  · cases hv
    have : k = 0 := by simpa using hk
    subst this
    exact ⟨RowF.nil, rfl, by simp, by simp, fun _ => rfl⟩
  · cases hv
    refine ⟨.inr ⟨g, k, cur, by rw [List.length_take, Nat.min_eq_left hk], h1, by rw [List.length_take]; omega, by omega, by omega, ?_⟩, rfl, h2, h4, fun h => by cases h⟩
    rw [List.length_take, Nat.min_eq_left hk, List.map_take, ← h5, List.take_take, Nat.min_eq_left hk]

/-- A file is left with its first bytes: from memory to memory. -/
theorem left_turn {w w1 : World} {b m : Nat} {d : Dsk} {A B : List FE} {f : FE} {S : Nat → Prop} {n : Str} (hD : DiskAt w b m d (A ++ f :: B)) (hS : ∀ k, S k ↔ k ∈ dskBlocks b m (A ++ f :: B)) (hw1 : Nw w w1)
    (hfn : f.name = n) (hnA : n ∉ A.map FE.name) (k : Nat) (hk : k ≤ f.file.bytes.length) :
    Calls Tryd.prog 52 #[.pointer (some ⟨f.fb, 0, none⟩), .int .i64 k] w1 fun e w' => e = .returned (.tuple #[]) ∧ DiskTo S w w' b { d with files := setF d.files n ⟨f.file.bytes.take k, k⟩ } := by
  have hf := hD.mem
  obtain ⟨fa, fc, hsl⟩ := slice_form hf.own
  have hf1 : FE.At w1 f := hf.keep fun g hg => hw1.block g (by
    simp only [FE.blocks, List.mem_cons, Option.mem_toList] at hg
    rcases hg with rfl | hg
    · exact lt_of_block hf.blk
    · exact hf.own.lt g hg) (fun hf => hf)
  obtain ⟨hr, hob, h1, h2, h3⟩ := left_row hf1.own hsl k hk
  have hb1 := hf1.blk
  rw [hsl] at hb1
  refine (left_ok hb1 hk h1 (by unfold maxLen at h2; omega) h3).mono ?_
  rintro e w' ⟨he, rfl⟩
  refine ⟨he, turn_file hD hS hw1 hfn hnA ⟨f.file.bytes.take k, k⟩ (.slice fa k k) ?_ ?_ ⟨?_, ?_⟩ (.inl hob) (by show k ≤ (f.file.bytes.take k).length; rw [List.length_take]; omega) (by show (f.file.bytes.take k).length ≤ _; rw [List.length_take]; omega)⟩
  · intro j hj hjn
    simp only [FE.blocks, List.mem_cons, not_or] at hjn
    rw [Below.heap_setCell _ _ _ _ hjn.1, Below.heap_setCell _ _ _ _ hjn.1]
  · exact ((Only.refl w1).setCell (fun _ => by simp [FE.blocks]) _).setCell (fun _ => by simp [FE.blocks]) _
  · rw [heap_setCell_at (heap_setCell_at hb1 0 _) 1 _]; simp
  · refine RowF.keep hr fun g hg => ?_
    have hne : g ≠ f.fb := fun e => (own_ne hD).2.2 (by rw [← hob, hg, e])
    rw [Below.heap_setCell _ _ _ _ hne, Below.heap_setCell _ _ _ _ hne]

theorem Cut2_ok {w : World} {b : Nat} {d : Dsk} {S : Nat → Prop} (h : DiskIn w b d S) (n : Str) (k : Int) (pn pd pk : Nat)
    (hn : w.cell? ⟨pn, 0, none⟩ = some (.string ⟨n.toArray⟩)) (hd : w.cell? ⟨pd, 0, none⟩ = some (.pointer (some ⟨b, 0, none⟩))) (hkc : w.cell? ⟨pk, 0, none⟩ = some (.int .i64 k)) (hm : d.mayCut n k = 0) :
    Calls Tryd.prog 51 #[.pointer (some ⟨pd, 0, none⟩), .pointer (some ⟨pn, 0, none⟩), .pointer (some ⟨pk, 0, none⟩)] w fun e w' =>
      e = .returned (.tuple #[]) ∧ DiskTo S w w' b { d with files := setF d.files n ⟨(fileOf d.files n).bytes.take k.toNat, k.toNat⟩ } := by
  have hth : d.there n = 0 ∧ 0 ≤ k ∧ k ≤ (fileOf d.files n).bytes.length := by
    unfold Dsk.mayCut at hm
    cases hg : getF d.files n with
    | none => rw [hg] at hm; simp at hm
    | some f =>
      rw [hg] at hm
      have h2 : ¬ (k < 0 ∨ (f.bytes.length : Int) < k) := fun hc => by simp only [if_pos hc] at hm; exact absurd hm (by decide)
      refine ⟨?_, by omega, by simp only [fileOf, hg, Option.getD_some]; omega⟩
      by_cases hmem : n ∈ namesF d.files
      · simp [Dsk.there, hmem]
      · rw [getF_miss hmem] at hg; cases hg
  obtain ⟨hth, hk0, hk1⟩ := hth
  obtain ⟨k, rfl⟩ := Int.eq_ofNat_of_zero_le hk0
  rw [Int.toNat_natCast]
  obtain ⟨m, fs, hD, hS⟩ := h
  obtain ⟨c0, c1, -, -, -⟩ := hdr_cells hD.hdr
  obtain ⟨clock, hmap, hclk⟩ := hD.map
  obtain ⟨A, f, B, rfl, hfn, hnA, hp, hfo, -⟩ := there_split hD hth
  rw [hfo] at hk1 ⊢
  have hk2 : k ≤ f.file.bytes.length := by omega
  have d0 := cellG hn
  have d1 := cellG hd
  have d2 := cellG hkc
  have d3 := cellG c0
  have hlk : ∀ p : Regrown, (Instr.lookup 55 (.map (some m)) (.string ⟨n.toArray⟩) false).run Tryd.prog (grow (redrawn w p.d) p.os) = .ok (.pointer (some ⟨f.fb, 0, none⟩)) (grow (redrawn w p.d) p.os) := fun p => by
    rw [← hp]; exact look_file ((Nw.of_regrown ⟨p, rfl⟩ : Nw w _).at_ hmap) n
  have HL : Hid (∀ w1, Nw w w1 → Calls Tryd.prog 52 #[.pointer (some ⟨f.fb, 0, none⟩), .int .i64 k] w1 fun e w' => e = .returned (.tuple #[]) ∧ DiskTo S w w' b { d with files := setF d.files n ⟨f.file.bytes.take k, k⟩ }) :=
    fun w1 hw1 => left_turn hD hS hw1 hfn hnA k hk2
  clear hD hS hfn hnA hp hfo hmap hclk hn hd hkc c0 c1 hth hm hk0 hk1 hk2
  go_enter Tryd.func51, Tryd.ntmps51
  refine wp_region_tail_below 7 (by kernel_rfl) (by kernel_rfl) ?_
  simp only [List.take_succ_cons, List.take_zero, List.drop_succ_cons, List.drop_zero]
  repeat (first | go_big_quiet_step (fail) | quiet_step (fail))
  refine wpQuiet_nil ?_
  intro w1 hw1
  have hw1 := Nw.of_regrown hw1
  clear hlk d0 d1 d2 d3
  go_wp2_with (go_at_call 52; refine (HL.out w1 hw1).mono ?_; rintro e w' ⟨rfl, hto⟩)
  exact bodyPost_end (results_none rfl _ _ _) rfl ⟨rfl, hto⟩
end Go.Proofs.YtkhcdbafcigeoaaDoor
