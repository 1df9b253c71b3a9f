/-
  Texts merged by a program of this claim's: DiskN, DiskO.
-/
import Derived.Test.YtkhcdbafcigeoaaDoorM6
import Derived.Test.YtkhcdbafcigeoaaDoorM7
/-
  The disk in memory: a file gone from the map, a file put into it under another name.
-/
namespace Go.Proofs.YtkhcdbafcigeoaaDoor
open Go Go.RowKit

theorem blocks_of {b m : Nat} {fs : List FE} {f : FE} (hf : f ∈ fs) {k : Nat} (hk : k ∈ f.blocks) : k ∈ dskBlocks b m fs := by
  simp only [dskBlocks, List.mem_cons, List.mem_flatMap]; exact .inr (.inr ⟨f, hf, hk⟩)

/-- A file is gone from the map; it lies there still. -/
theorem DiskAt.drop {w w' : World} {b m clock : Nat} {d : Dsk} {A B : List FE} {f : FE} (h : DiskAt w b m d (A ++ f :: B)) (hclk : ∀ x ∈ A ++ f :: B, x.born < clock)
    (hm : w'.heap[m]? = some (.map (ents ((A ++ B).map FE.en)) clock)) (ho : ∀ k, k < w.heap.size → k ≠ m → w'.heap[k]? = w.heap[k]?) (hA : f.name ∉ A.map FE.name) :
    DiskAt w' b m { d with files := delF d.files f.name } (A ++ B) ∧ f.At w' ∧ (∀ k ∈ f.blocks, k ∉ dskBlocks b m (A ++ B)) ∧ f.blocks.Nodup := by
  have hfile : d.files = A.map FE.nf ++ (f.name, f.file) :: B.map FE.nf := by rw [h.files, nf_mid]
  have hdel : delF d.files f.name = A.map FE.nf ++ B.map FE.nf := by
    rw [hfile]; exact delF_hit (by rw [names_of_FE]; exact hA)
  have hnd := h.nodup
  have hlt := h.lt
  have hbm : b ≠ m := by simp only [dskBlocks, List.nodup_cons, List.mem_cons, not_or] at hnd; exact hnd.1.1
  have hmf : ∀ x ∈ A ++ f :: B, m ∉ x.blocks := by
    simp only [dskBlocks, List.nodup_cons, List.mem_cons, List.mem_flatMap, not_or] at hnd
    exact fun x hx hc => hnd.2.1 ⟨x, hx, hc⟩
  have keepF : ∀ x ∈ A ++ f :: B, x.At w' := fun x hx => (h.file x hx).keep fun k hk => ho k (hlt k (blocks_of hx hk)) (fun e => hmf x hx (e ▸ hk))
  have hsub : (dskBlocks b m (A ++ B)).Sublist (dskBlocks b m (A ++ f :: B)) := by
    rw [dskBlocks_mid, dskBlocks_two]
    exact List.Sublist.append_left ((List.sublist_append_right _ _).trans (List.sublist_cons_self _ _)) _
  have hmem : ∀ x ∈ A ++ B, x ∈ A ++ f :: B := fun x hx => by
    simp only [List.mem_append, List.mem_cons] at hx ⊢
    rcases hx with hx | hx
    · exact .inl hx
    · exact .inr (.inr hx)
  have hmid := hnd
  rw [dskBlocks_mid] at hmid
  have e : (b :: m :: A.flatMap FE.blocks) ++ f.fb :: (f.sl.ownBlock.toList ++ B.flatMap FE.blocks) = (b :: m :: A.flatMap FE.blocks) ++ (f.blocks ++ B.flatMap FE.blocks) := by simp [FE.blocks]
  rw [e, List.nodup_append] at hmid
  refine ⟨⟨?_, ⟨clock, hm, fun x hx => hclk x (hmem x hx)⟩, ?_, fun x hx => keepF x (hmem x hx), hsub.nodup hnd, ?_, ?_⟩, keepF f (by simp), ?_, ?_⟩
  · rw [ho b (hlt b (by simp [dskBlocks])) hbm]; exact h.hdr
  · show delF d.files f.name = _
    rw [hdel, List.map_append]
  · have : ((A ++ B).map FE.born).Sublist ((A ++ f :: B).map FE.born) := (List.Sublist.append_left (List.sublist_cons_self _ _) _).map _
    exact this.nodup h.born
  · rw [hdel]; exact h.ok.del hfile
  · intro k hk hc
    rw [dskBlocks_two, List.mem_append] at hc
    rcases hc with hc | hc
    · exact hmid.2.2 k hc k (List.mem_append_left _ hk) rfl
    · exact (List.nodup_append.1 hmid.2.1).2.2 k hk k hc rfl
  · exact (List.nodup_append.1 hmid.2.1).1

/-- A file that lies there is put under a name that is new. -/
theorem DiskAt.put_new {w w' : World} {b m clock : Nat} {d : Dsk} {fs : List FE} (h : DiskAt w b m d fs) {f : FE} (tn : Str) (hf : f.At w) (hdis : ∀ k ∈ f.blocks, k ∉ dskBlocks b m fs) (hnd : f.blocks.Nodup) (hclk : ∀ x ∈ fs, x.born < clock)
    (hm : w'.heap[m]? = some (.map (ents (fs.map FE.en ++ [⟨tn, .pointer (some ⟨f.fb, 0, none⟩), clock⟩])) (clock + 1))) (ho : ∀ k, k < w.heap.size → k ≠ m → w'.heap[k]? = w.heap[k]?)
    (ok : ({ d with files := d.files ++ [(tn, f.file)] } : Dsk).Ok) : DiskAt w' b m { d with files := d.files ++ [(tn, f.file)] } (fs ++ [{ f with name := tn, born := clock }]) := by
  have hnd0 := h.nodup
  have hlt := h.lt
  have hbm : b ≠ m := by simp only [dskBlocks, List.nodup_cons, List.mem_cons, not_or] at hnd0; exact hnd0.1.1
  have hmf : ∀ x ∈ fs, m ∉ x.blocks := by
    simp only [dskBlocks, List.nodup_cons, List.mem_cons, List.mem_flatMap, not_or] at hnd0
    exact fun x hx hc => hnd0.2.1 ⟨x, hx, hc⟩
  have hflt : ∀ k ∈ f.blocks, k < w.heap.size := fun k hk => by
    simp only [FE.blocks, List.mem_cons, Option.mem_toList] at hk
    rcases hk with rfl | hk
    · exact lt_of_block hf.blk
    · exact hf.own.lt k hk
  refine ⟨?_, ⟨clock + 1, ?_, ?_⟩, ?_, ?_, ?_, ?_, ok⟩
  · rw [ho b (hlt b (by simp [dskBlocks])) hbm]; exact h.hdr
  · rw [hm]; simp [FE.en]
  · intro x hx
    simp only [List.mem_append, List.mem_singleton] at hx
    rcases hx with hx | rfl
    · have := hclk x hx; omega
    · exact Nat.lt_succ_self _
  · show d.files ++ _ = _
    rw [h.files]; simp [FE.nf]
  · intro x hx
    simp only [List.mem_append, List.mem_singleton] at hx
    rcases hx with hx | rfl
    · exact (h.file x hx).keep fun k hk => ho k (hlt k (blocks_of hx hk)) (fun e => hmf x hx (e ▸ hk))
    · have h1 : f.At w' := hf.keep fun k hk => ho k (hflt k hk) (fun e => hdis k hk (by rw [e]; simp [dskBlocks]))
      exact ⟨h1.blk, h1.own⟩
  · have : dskBlocks b m (fs ++ [{ f with name := tn, born := clock }]) = dskBlocks b m fs ++ f.blocks := by simp [dskBlocks, FE.blocks]
    rw [this, List.nodup_append]
    exact ⟨hnd0, hnd, fun k hk c hc e => hdis c hc (e ▸ hk)⟩
  · rw [List.map_append, List.nodup_append]
    refine ⟨h.born, by simp, ?_⟩
    intro k hk c hc e
    obtain ⟨x, hx, rfl⟩ := List.mem_map.1 hk
    simp at hc
    have := hclk x hx
    omega

/-- A file that lies there is put in another one's place. -/
theorem DiskAt.put_over {w w' : World} {b m clock : Nat} {d : Dsk} {A B : List FE} {g : FE} (h : DiskAt w b m d (A ++ g :: B)) {f : FE} (hf : f.At w) (hdis : ∀ k ∈ f.blocks, k ∉ dskBlocks b m (A ++ g :: B)) (hnd : f.blocks.Nodup) (hclk : ∀ x ∈ A ++ g :: B, x.born < clock)
    (hm : w'.heap[m]? = some (.map (ents (A.map FE.en ++ ⟨g.name, .pointer (some ⟨f.fb, 0, none⟩), g.born⟩ :: B.map FE.en)) clock)) (ho : ∀ k, k < w.heap.size → k ≠ m → w'.heap[k]? = w.heap[k]?)
    (hA : g.name ∉ A.map FE.name) (ok : ({ d with files := setF d.files g.name f.file } : Dsk).Ok) : DiskAt w' b m { d with files := setF d.files g.name f.file } (A ++ { f with name := g.name, born := g.born } :: B) := by
  have hnd0 := h.nodup
  have hlt := h.lt
  have hbm : b ≠ m := by simp only [dskBlocks, List.nodup_cons, List.mem_cons, not_or] at hnd0; exact hnd0.1.1
  have hmf : ∀ x ∈ A ++ g :: B, m ∉ x.blocks := by
    simp only [dskBlocks, List.nodup_cons, List.mem_cons, List.mem_flatMap, not_or] at hnd0
    exact fun x hx hc => hnd0.2.1 ⟨x, hx, hc⟩
  have hflt : ∀ k ∈ f.blocks, k < w.heap.size := fun k hk => by
    simp only [FE.blocks, List.mem_cons, Option.mem_toList] at hk
    rcases hk with rfl | hk
    · exact lt_of_block hf.blk
    · exact hf.own.lt k hk
  have hset : setF d.files g.name f.file = A.map FE.nf ++ (g.name, f.file) :: B.map FE.nf := by
    rw [h.files, nf_mid]; exact setF_hit (by rw [names_of_FE]; exact hA)
  have keepX : ∀ x ∈ A ++ g :: B, x.At w' := fun x hx => (h.file x hx).keep fun k hk => ho k (hlt k (blocks_of hx hk)) (fun e => hmf x hx (e ▸ hk))
  refine ⟨?_, ⟨clock, ?_, ?_⟩, ?_, ?_, ?_, ?_, ok⟩
  · rw [ho b (hlt b (by simp [dskBlocks])) hbm]; exact h.hdr
  · rw [hm]; simp [FE.en]
  · intro x hx
    simp only [List.mem_append, List.mem_cons] at hx
    rcases hx with hx | rfl | hx
    · exact hclk x (by simp [hx])
    · exact hclk g (by simp)
    · exact hclk x (by simp [hx])
  · show setF d.files g.name f.file = _
    rw [hset, nf_mid]
  · intro x hx
    simp only [List.mem_append, List.mem_cons] at hx
    rcases hx with hx | rfl | hx
    · exact keepX x (by simp [hx])
    · have h1 : f.At w' := hf.keep fun k hk => ho k (hflt k hk) (fun e => hdis k hk (by rw [e]; simp [dskBlocks]))
      exact ⟨h1.blk, h1.own⟩
    · exact keepX x (by simp [hx])
  · have e1 : dskBlocks b m (A ++ { f with name := g.name, born := g.born } :: B) = (b :: m :: A.flatMap FE.blocks) ++ (f.blocks ++ B.flatMap FE.blocks) := by simp [dskBlocks, FE.blocks]
    have e2 : dskBlocks b m (A ++ g :: B) = (b :: m :: A.flatMap FE.blocks) ++ (g.blocks ++ B.flatMap FE.blocks) := by simp [dskBlocks, FE.blocks]
    rw [e2] at hnd0 hdis
    rw [e1]
    simp only [List.nodup_append] at hnd0 ⊢
    obtain ⟨n1, ⟨n2, n3, n4⟩, n5⟩ := hnd0
    refine ⟨n1, ⟨hnd, n3, ?_⟩, ?_⟩
    · intro k hk c hc e
      exact hdis k hk (List.mem_append_right _ (List.mem_append_right _ (e ▸ hc)))
    · intro k hk c hc e
      rw [List.mem_append] at hc
      rcases hc with hc | hc
      · exact hdis c hc (List.mem_append_left _ (e ▸ hk))
      · exact n5 k hk c (List.mem_append_right _ hc) e
  · have : (A ++ { f with name := g.name, born := g.born } :: B).map FE.born = (A ++ g :: B).map FE.born := by simp
    rw [this]; exact h.born

/-- A disk behind Rename is one that may be. -/
theorem Dsk.Ok.rename {d : Dsk} (ok : d.Ok) {a t : Str} (ha : a ∈ namesF d.files) (ht : okName t = true) : ({ d with files := setF (delF d.files a) t (fileOf d.files a) } : Dsk).Ok := by
  rcases split_name a d.files with h | ⟨A, f, B, hd, hA⟩
  · exact absurd ha h
  · have hfo : fileOf d.files a = f := by rw [hd]; simp [fileOf, getF_hit hA]
    have hdl : delF d.files a = A ++ B := by rw [hd]; exact delF_hit hA
    have ok1 := ok.del hd
    have hus := ok.used
    rw [hd, usedF_mid] at hus
    have hsy := ok.synced (a, f) (by rw [hd]; simp)
    have hfew := ok.few
    rw [hd] at hfew
    rw [hdl, hfo]
    rcases split_name t (A ++ B) with h | ⟨A', g, B', hd', hA'⟩
    · rw [setF_miss h]
      refine ⟨ok.most0, ok.most1, ok.arm0, ok.arm1, ?_, ?_, ?_, ?_, ?_⟩
      · show (namesF ((A ++ B) ++ [(t, f)])).Nodup
        rw [namesF_append, List.nodup_append]
        refine ⟨ok1.names, by simp [namesF], ?_⟩
        intro x hx c hc e
        simp [namesF] at hc
        subst hc; subst e; exact h hx
      · intro k hk
        have hk' : k ∈ namesF ((A ++ B) ++ [(t, f)]) := hk
        rw [namesF_append, List.mem_append] at hk'
        rcases hk' with hk | hk
        · exact ok1.named k hk
        · simp [namesF] at hk; subst hk; exact ht
      · show ((A ++ B) ++ [(t, f)]).length ≤ 200
        simp at hfew ⊢; omega
      · show ((usedF ((A ++ B) ++ [(t, f)]) : Nat) : Int) ≤ d.most
        rw [usedF_append, usedF_append]
        simp only [usedF, List.map_cons, List.map_nil, List.sum_cons, List.sum_nil] at hus ⊢
        omega
      · intro x hx
        have hx' : x ∈ (A ++ B) ++ [(t, f)] := hx
        rw [List.mem_append] at hx'
        rcases hx' with hx | hx
        · exact ok1.synced x hx
        · simp at hx; subst hx; exact hsy
    · rw [hd', setF_hit hA']
      have h1 : ({ d with files := A ++ B } : Dsk).files = A' ++ (t, g) :: B' := hd'
      have := ok1.upd (g := f) h1 hsy (by
        have e : usedF (A ++ B) = usedF A' + g.bytes.length + usedF B' := by rw [hd', usedF_mid]
        rw [usedF_append] at e
        show ((usedF A' + f.bytes.length + usedF B' : Nat) : Int) ≤ d.most
        omega)
      exact this
end Go.Proofs.YtkhcdbafcigeoaaDoor

/-
  Remove and Rename: what they do.
-/
namespace Go.Proofs.YtkhcdbafcigeoaaDoor
open Go Go.RowKit Go.Sort
set_option maxRecDepth 100000
set_option maxHeartbeats 800000

theorem en_keys (fs : List FE) : (fs.map FE.en).map En.key = fs.map FE.name := by rw [List.map_map]; rfl

theorem Remove2_ok {w : World} {b : Nat} {d : Dsk} {S : Nat → Prop} (h : DiskIn w b d S) (n : Str) (pn pd : Nat)
    (hn : w.cell? ⟨pn, 0, none⟩ = some (.string ⟨n.toArray⟩)) (hd : w.cell? ⟨pd, 0, none⟩ = some (.pointer (some ⟨b, 0, none⟩))) (hth : d.there n = 0) :
    Calls Tryd.prog 49 #[.pointer (some ⟨pd, 0, none⟩), .pointer (some ⟨pn, 0, none⟩)] w fun e w' =>
      e = .returned (.tuple #[]) ∧ DiskTo S w w' b { d with files := delF d.files n } := by
  obtain ⟨m, fs, hD, hS⟩ := h
  obtain ⟨c0, c1, -, -, -⟩ := hdr_cells hD.hdr
  obtain ⟨clock, hmap, hclk⟩ := hD.map
  obtain ⟨A, f, B, rfl, hfn, hnA, hp, hfo, -⟩ := there_split hD hth
  have d0 := cellG hn
  have d1 := cellG hd
  have d3 := cellG c0
  have HD := Lib.hid hD
  have HS := Lib.hid hS
  have HN := Lib.hid hfn
  have HA := Lib.hid hnA
  have HM := Lib.hid hmap
  have HC := Lib.hid hclk
  clear hD hS hfn hnA hp hfo hmap hclk hn hd c0 c1 hth
  go_enter Tryd.func49, Tryd.ntmps49
  refine wp_region_tail_below 5 (by kernel_rfl) (by kernel_rfl) ?_
  simp only [List.take_succ_cons, List.take_zero, List.drop_succ_cons, List.drop_zero]
  repeat (first | go_big_quiet_step (fail) | quiet_step (fail))
  refine wpQuiet_nil ?_
  intro w1 hw1
  have hw1 := Nw.of_regrown hw1
  have hm1 := hw1.at_ HM.out
  have hmap1 := hm1
  rw [List.map_append, List.map_cons] at hmap1
  have hdel := fun ty => run_drop_hit (P := Tryd.prog) (A := A.map FE.en) (B := B.map FE.en) (e := f.en) (k := n) ty Tryd.underlying55 Tryd.underlying9 hmap1 (by rw [← HN.out]; rfl) (by rw [en_keys]; exact HA.out)
  have HW := Lib.hid hw1
  have HM1 := Lib.hid hm1
  clear d0 d1 d3 hw1 hm1 hmap1
  go_wp2
  refine bodyPost_end (results_none rfl _ _ _) rfl ⟨rfl, ?_⟩
  have hD1 : DiskAt w1 b m d (A ++ f :: B) := HD.out.keep fun k hk => HW.out.block k (HD.out.lt k hk) (fun hf => hf)
  have hto := (hD1.drop (w' := World.setBlk w1 m (.map (ents (A.map FE.en ++ B.map FE.en)) clock)) HC.out (by rw [setBlk_same HM1.out, List.map_append]) (fun k _ hk => setBlk_other hk) (by rw [HN.out]; exact HA.out)).1
  rw [HN.out] at hto
  refine ⟨_, ⟨m, _, hto, fun k => Iff.rfl⟩, ?_, ?_⟩
  · exact Only.setBlk HW.out.only (fun _ => (HS.out m).2 (by simp [dskBlocks])) _
  · intro k hk
    refine .inl ((HS.out k).2 ?_)
    rw [dskBlocks_two] at hk
    rw [dskBlocks_mid]
    simp only [List.mem_append, List.mem_cons] at hk ⊢
    rcases hk with hk | hk
    · exact .inl hk
    · exact .inr (.inr (.inr hk))

theorem Rename2_ok {w : World} {b : Nat} {d : Dsk} {S : Nat → Prop} (h : DiskIn w b d S) (n t : Str) (pn pd pt : Nat)
    (hn : w.cell? ⟨pn, 0, none⟩ = some (.string ⟨n.toArray⟩)) (hd : w.cell? ⟨pd, 0, none⟩ = some (.pointer (some ⟨b, 0, none⟩))) (ht : w.cell? ⟨pt, 0, none⟩ = some (.string ⟨t.toArray⟩))
    (hpn : ¬ S pn) (hpd : ¬ S pd) (hpt : ¬ S pt) (hth : d.mayRename n t = 0) :
    Calls Tryd.prog 46 #[.pointer (some ⟨pd, 0, none⟩), .pointer (some ⟨pn, 0, none⟩), .pointer (some ⟨pt, 0, none⟩)] w fun e w' =>
      e = .returned (.tuple #[]) ∧ DiskTo S w w' b { d with files := setF (delF d.files n) t (fileOf d.files n) } := by
  have hokt : okName t = true ∧ d.there n = 0 := by
    unfold Dsk.mayRename at hth
    split at hth
    · exact ⟨by assumption, hth⟩
    · exact absurd hth (by decide)
  obtain ⟨hokt, hth⟩ := hokt
  have hmemn : n ∈ namesF d.files := by
    by_cases hm : n ∈ namesF d.files
    · exact hm
    · simp [Dsk.there, hm] at hth
  obtain ⟨m, fs, hD, hS⟩ := h
  obtain ⟨c0, c1, -, -, -⟩ := hdr_cells hD.hdr
  obtain ⟨clock, hmap, hclk⟩ := hD.map
  obtain ⟨A, f, B, rfl, hfn, hnA, hp, hfo, -⟩ := there_split hD hth
  have hmn : ¬ (pn = m) := fun e => hpn (by rw [e]; exact (hS m).2 (by simp [dskBlocks]))
  have hmd : ¬ (pd = m) := fun e => hpd (by rw [e]; exact (hS m).2 (by simp [dskBlocks]))
  have hmt : ¬ (pt = m) := fun e => hpt (by rw [e]; exact (hS m).2 (by simp [dskBlocks]))
  have hbm : ¬ (b = m) := by have := hD.nodup; simp only [dskBlocks, List.nodup_cons, List.mem_cons, not_or] at this; exact this.1.1
  have d0 := cellG hn
  have d1 := cellG hd
  have d3 := cellG c0
  have hlk : ∀ p : Regrown, (Instr.lookup 55 (.map (some m)) (.string ⟨n.toArray⟩) false).run Tryd.prog (grow (redrawn w p.d) p.os) = .ok (.pointer (some ⟨f.fb, 0, none⟩)) (grow (redrawn w p.d) p.os) := fun p => by
    rw [← hp]; exact look_file ((Nw.of_regrown ⟨p, rfl⟩ : Nw w _).at_ hmap) n
  have HOK := Lib.hid (hD.ok.rename hmemn hokt)
  have HFO := Lib.hid hfo
  have HD := Lib.hid hD
  have HS := Lib.hid hS
  have HN := Lib.hid hfn
  have HA := Lib.hid hnA
  have HM := Lib.hid hmap
  have HC := Lib.hid hclk
  have HX : Hid (w.cell? ⟨pd, 0, none⟩ = some (.pointer (some ⟨b, 0, none⟩)) ∧ w.cell? ⟨pt, 0, none⟩ = some (.string ⟨t.toArray⟩) ∧ w.cell? ⟨b, 0, none⟩ = some (.map (some m))) := ⟨hd, ht, c0⟩
  clear hD hS hfn hnA hp hfo hmap hclk hth hokt hmemn hpn hpd hpt c1
  go_enter Tryd.func46, Tryd.ntmps46
  go_wp2
  refine wp_region_quiet_below (by kernel_rfl) (by kernel_rfl) ?_
  repeat (first | go_big_quiet_step (fail) | quiet_step (fail))
  refine wpQuiet_nil ?_
  intro w0 hw0
  have hw0 := Nw.of_regrown hw0
  clear hlk d0 d1 d3
  have n0 := hw0.cell hn
  have e0 := hw0.cell hd
  have t0 := hw0.cell ht
  have k0 := hw0.cell c0
  have HW0 := Lib.hid hw0
  clear hn hd ht c0 hw0
  go_wp2
  have d0 := cellG n0
  have d1 := cellG e0
  have d3 := cellG k0
  refine wp_region_tail_below 5 (by kernel_rfl) (by kernel_rfl) ?_
  simp only [List.take_succ_cons, List.take_zero, List.drop_succ_cons, List.drop_zero]
  repeat (first | go_big_quiet_step (fail) | quiet_step (fail))
  refine wpQuiet_nil ?_
  intro w1 hw1
  have hw1 := HW0.out.trans (Nw.of_regrown hw1)
  have hm1 := hw1.at_ HM.out
  have hmap1 := hm1
  rw [List.map_append, List.map_cons] at hmap1
  have hdel := fun ty => run_drop_hit (P := Tryd.prog) (A := A.map FE.en) (B := B.map FE.en) (e := f.en) (k := n) ty Tryd.underlying55 Tryd.underlying9 hmap1 (by rw [← HN.out]; rfl) (by rw [en_keys]; exact HA.out)
  have hD1 : DiskAt w1 b m d (A ++ f :: B) := HD.out.keep fun k hk => hw1.block k (HD.out.lt k hk) (fun hf => hf)
  have hdrop := hD1.drop (w' := World.setBlk w1 m (.map (ents (A.map FE.en ++ B.map FE.en)) clock)) HC.out (by rw [setBlk_same hm1, List.map_append]) (fun k _ hk => setBlk_other hk) (by rw [HN.out]; exact HA.out)
  have hm2 := setBlk_same (o' := .map (ents (A.map FE.en ++ B.map FE.en)) clock) hm1
  have ho2 : Only (fun k => k = m) w (World.setBlk w1 m (.map (ents (A.map FE.en ++ B.map FE.en)) clock)) := Only.setBlk (S := fun k => k = m) hw1.only (fun _ => rfl) _
  have HW1 := Lib.hid hw1
  have HP := Lib.hid hdrop
  have HM2 := Lib.hid hm2
  have HO2 := Lib.hid ho2
  have e2 := ho2.cell HX.out.1 hmd
  have t2 := ho2.cell HX.out.2.1 hmt
  have k2 := ho2.cell HX.out.2.2 hbm
  clear d0 d1 d3 hw1 hm1 hmap1 hD1 hdrop hm2 ho2 n0 e0 t0 k0
  go_wp2
  generalize World.setBlk w1 m (.map (ents (A.map FE.en ++ B.map FE.en)) clock) = w2 at e2 t2 k2 HP HM2 HO2 ⊢
  have d1 := cellG e2
  have d2 := cellG t2
  have d3 := cellG k2
  refine wp_region_tail_below 6 (by kernel_rfl) (by kernel_rfl) ?_
  simp only [List.take_succ_cons, List.take_zero, List.drop_succ_cons, List.drop_zero]
  repeat (first | go_big_quiet_step (fail) | quiet_step (fail))
  refine wpQuiet_nil ?_
  intro w3 hw3
  have hw3 := Nw.of_regrown hw3
  have hm3 := hw3.at_ HM2.out
  have hD2 := HP.out.1
  have hD3 : DiskAt w3 b m _ (A ++ B) := hD2.keep (w' := w3) fun k hk => hw3.block k (hD2.lt k hk) (fun hf => hf)
  have hf3 : f.At w3 := HP.out.2.1.keep fun k hk => hw3.block k (by
    simp only [FE.blocks, List.mem_cons, Option.mem_toList] at hk
    rcases hk with rfl | hk
    · exact lt_of_block HP.out.2.1.blk
    · exact HP.out.2.1.own.lt k hk) (fun hf => hf)
  have hm3' : w3.heap[m]? = some (.map (ents ((A ++ B).map FE.en)) clock) := by rw [List.map_append]; exact hm3
  have hclk3 : ∀ x ∈ A ++ B, x.born < clock := fun x hx => HC.out x (by simp only [List.mem_append, List.mem_cons] at hx ⊢; rcases hx with hx | hx; exact .inl hx; exact .inr (.inr hx))
  have hfiles : delF d.files n = (A ++ B).map FE.nf := by have := hD3.files; rw [HN.out] at this; exact this
  have hsub : ∀ k, k ∈ dskBlocks b m (A ++ B) ∨ k ∈ f.blocks → k ∈ dskBlocks b m (A ++ f :: B) := by
    intro k hk
    rw [dskBlocks_two] at hk
    rw [dskBlocks_mid]
    simp only [List.mem_append, List.mem_cons, FE.blocks] at hk ⊢
    rcases hk with (hk | hk) | hk | hk
    · exact .inl hk
    · exact .inr (.inr (.inr hk))
    · exact .inr (.inl hk)
    · exact .inr (.inr (.inl hk))
  have HM3 := Lib.hid hm3'
  have HD3 := Lib.hid hD3
  have HF3 := Lib.hid hf3
  have HW3 := Lib.hid hw3
  have HC3 := Lib.hid hclk3
  have HFI := Lib.hid hfiles
  have HSUB := Lib.hid hsub
  have honly : Only S w w3 := (HO2.out.mono (T := S) fun k _ e => by subst e; exact (HS.out _).2 (by simp [dskBlocks])).trans hw3.only
  have HON := Lib.hid honly
  rcases split_key t ((A ++ B).map FE.en) with hk | ⟨A2, e, B2, hAB, hek, hA2⟩
  · have hst := run_store_miss (P := Tryd.prog) (L := (A ++ B).map FE.en) Tryd.underlying55 Tryd.underlying9 hm3' hk (.pointer (some ⟨f.fb, 0, none⟩))
    have HK := Lib.hid hk
    generalize hL : (A ++ B).map FE.en = L2 at hst
    have HL := Lib.hid hL
    clear d1 d2 d3 hw3 hm3 hD2 hD3 hf3 hk hm3' hclk3 hfiles hsub honly hL
    go_wp2
    refine bodyPost_end (results_none rfl _ _ _) rfl ⟨rfl, ?_⟩
    have htn : t ∉ namesF (delF d.files n) := by rw [HFI.out, names_of_FE, ← en_keys]; exact HK.out
    have hset : setF (delF d.files n) t (fileOf d.files n) = delF d.files n ++ [(t, f.file)] := by rw [setF_miss htn, HFO.out]
    have hok := HOK.out
    rw [hset] at hok ⊢
    have hD3' := HD3.out
    rw [HN.out] at hD3'
    have hto := hD3'.put_new (w' := World.setBlk w3 m (.map (ents (L2 ++ [⟨t, .pointer (some ⟨f.fb, 0, none⟩), clock⟩])) (clock + 1))) t HF3.out HP.out.2.2.1 HP.out.2.2.2
      HC3.out (by rw [setBlk_same HM3.out, HL.out]) (fun k _ hk => setBlk_other hk) hok
    refine ⟨_, ⟨m, _, hto, fun k => Iff.rfl⟩, ?_, ?_⟩
    · exact Only.setBlk HON.out (fun _ => (HS.out m).2 (by simp [dskBlocks])) _
    · intro k hk
      refine .inl ((HS.out k).2 (HSUB.out k ?_))
      have e : dskBlocks b m (A ++ B ++ [{ f with name := t, born := clock }]) = dskBlocks b m (A ++ B) ++ f.blocks := by simp [dskBlocks, FE.blocks]
      rw [e, List.mem_append] at hk
      exact hk
  · obtain ⟨A3, B4, hAB3, hA3, h2⟩ := List.map_eq_append_iff.1 hAB
    obtain ⟨g, B3, hB4, hg, hB3⟩ := List.map_eq_cons_iff.1 h2
    subst hB4
    have hgn : g.name = t := by rw [← hek, ← hg]; rfl
    have hmap3 : w3.heap[m]? = some (.map (ents (A2 ++ e :: B2)) clock) := by rw [← hAB]; exact hm3'
    have hst := run_store_hit (P := Tryd.prog) Tryd.underlying55 Tryd.underlying9 hmap3 hek hA2 (.pointer (some ⟨f.fb, 0, none⟩))
    have HX3 : Hid (A ++ B = A3 ++ g :: B3 ∧ A3.map FE.en = A2 ∧ B3.map FE.en = B2 ∧ g.en = e ∧ g.name = t ∧ t ∉ A3.map FE.name) := ⟨hAB3, hA3, hB3, hg, hgn, by rw [← en_keys, hA3]; exact hA2⟩
    have hborn : e.born = g.born := by rw [← hg]; rfl
    rw [hborn] at hst
    clear d1 d2 d3 hw3 hm3 hD2 hD3 hf3 hm3' hclk3 hfiles hsub honly hmap3 hgn hB3 hg h2 hAB3 hAB hek hA2 hborn hA3
    go_wp2
    refine bodyPost_end (results_none rfl _ _ _) rfl ⟨rfl, ?_⟩
    obtain ⟨x1, x2, x3, x4, x5, x6⟩ := HX3.out
    have hok := HOK.out
    rw [HFO.out] at hok ⊢
    have hD3' := HD3.out
    have hdis := HP.out.2.2.1
    have hcl := HC3.out
    rw [HN.out] at hD3'
    rw [x1] at hD3' hdis hcl
    rw [← x5] at hok ⊢
    have hto := hD3'.put_over (w' := World.setBlk w3 m (.map (ents (A2 ++ ⟨g.name, .pointer (some ⟨f.fb, 0, none⟩), g.born⟩ :: B2)) clock)) HF3.out hdis HP.out.2.2.2
      hcl (by rw [setBlk_same HM3.out, x2, x3]) (fun k _ hk => setBlk_other hk) (by rw [x5]; exact x6) hok
    refine ⟨_, ⟨m, _, hto, fun k => Iff.rfl⟩, ?_, ?_⟩
    · exact Only.setBlk HON.out (fun _ => (HS.out m).2 (by simp [dskBlocks])) _
    · intro k hk
      refine .inl ((HS.out k).2 (HSUB.out k ?_))
      rw [x1]
      have e1 : dskBlocks b m (A3 ++ { f with name := g.name, born := g.born } :: B3) = (b :: m :: A3.flatMap FE.blocks) ++ (f.blocks ++ B3.flatMap FE.blocks) := by simp [dskBlocks, FE.blocks]
      have e2 : dskBlocks b m (A3 ++ g :: B3) = (b :: m :: A3.flatMap FE.blocks) ++ (g.blocks ++ B3.flatMap FE.blocks) := by simp [dskBlocks, FE.blocks]
      rw [e1] at hk
      rw [e2]
      simp only [List.mem_append] at hk ⊢
      rcases hk with hk | hk | hk
      · exact .inl (.inl hk)
      · exact .inr hk
      · exact .inl (.inr (.inr hk))
end Go.Proofs.YtkhcdbafcigeoaaDoor
