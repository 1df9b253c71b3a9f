/-
  The disk in memory: a file gone from the map, a file put into it under another name.
-/
import Derived.Test.YtihagdadbeoeoaaDoorDiskM
namespace Go.Proofs.YtihagdadbeoeoaaDoor
open Go Go.RowKit

theorem blocks_of {b m : Nat} {fs : List FE} {f : FE} (hf : f ∈ fs) {k : Nat} (hk : k ∈ f.blocks) : k ∈ dskBlocks b m fs := by
  simp only [dskBlocks, List.mem_cons, List.mem_flatMap]; exact .inr (.inr ⟨f, hf, hk⟩)

/-- A file is gone from the map; it lies there still. -/
theorem DiskAt.drop {w w' : World} {b m clock : Nat} {d : Dsk} {A B : List FE} {f : FE} (h : DiskAt w b m d (A ++ f :: B)) (hclk : ∀ x ∈ A ++ f :: B, x.born < clock)
    (hm : w'.heap[m]? = some (.map (ents ((A ++ B).map FE.en)) clock)) (ho : ∀ k, k < w.heap.size → k ≠ m → w'.heap[k]? = w.heap[k]?) (hA : f.name ∉ A.map FE.name) :
    DiskAt w' b m { d with files := delF d.files f.name } (A ++ B) ∧ f.At w' ∧ (∀ k ∈ f.blocks, k ∉ dskBlocks b m (A ++ B)) ∧ f.blocks.Nodup := by
  have hfile : d.files = A.map FE.nf ++ (f.name, f.file) :: B.map FE.nf := by rw [h.files, nf_mid]
  have hdel : delF d.files f.name = A.map FE.nf ++ B.map FE.nf := by
    rw [hfile]; exact delF_hit (by rw [names_of_FE]; exact hA)
  have hnd := h.nodup
  have hlt := h.lt
  have hbm : b ≠ m := by simp only [dskBlocks, List.nodup_cons, List.mem_cons, not_or] at hnd; exact hnd.1.1
  have hmf : ∀ x ∈ A ++ f :: B, m ∉ x.blocks := by
    simp only [dskBlocks, List.nodup_cons, List.mem_cons, List.mem_flatMap, not_or] at hnd
    exact fun x hx hc => hnd.2.1 ⟨x, hx, hc⟩
  have keepF : ∀ x ∈ A ++ f :: B, x.At w' := fun x hx => (h.file x hx).keep fun k hk => ho k (hlt k (blocks_of hx hk)) (fun e => hmf x hx (e ▸ hk))
  have hsub : (dskBlocks b m (A ++ B)).Sublist (dskBlocks b m (A ++ f :: B)) := by
    rw [dskBlocks_mid, dskBlocks_two]
    exact List.Sublist.append_left ((List.sublist_append_right _ _).trans (List.sublist_cons_self _ _)) _
  have hmem : ∀ x ∈ A ++ B, x ∈ A ++ f :: B := fun x hx => by
    simp only [List.mem_append, List.mem_cons] at hx ⊢
    rcases hx with hx | hx
    · exact .inl hx
    · exact .inr (.inr hx)
  have hmid := hnd
  rw [dskBlocks_mid] at hmid
  have e : (b :: m :: A.flatMap FE.blocks) ++ f.fb :: (f.sl.ownBlock.toList ++ B.flatMap FE.blocks) = (b :: m :: A.flatMap FE.blocks) ++ (f.blocks ++ B.flatMap FE.blocks) := by simp [FE.blocks]
  rw [e, List.nodup_append] at hmid
  refine ⟨⟨?_, ⟨clock, hm, fun x hx => hclk x (hmem x hx)⟩, ?_, fun x hx => keepF x (hmem x hx), hsub.nodup hnd, ?_, ?_⟩, keepF f (by simp), ?_, ?_⟩
  · rw [ho b (hlt b (by simp [dskBlocks])) hbm]; exact h.hdr
  · show delF d.files f.name = _
    rw [hdel, List.map_append]
  · have : ((A ++ B).map FE.born).Sublist ((A ++ f :: B).map FE.born) := (List.Sublist.append_left (List.sublist_cons_self _ _) _).map _
    exact this.nodup h.born
  · rw [hdel]; exact h.ok.del hfile
  · intro k hk hc
    rw [dskBlocks_two, List.mem_append] at hc
    rcases hc with hc | hc
    · exact hmid.2.2 k hc k (List.mem_append_left _ hk) rfl
    · exact (List.nodup_append.1 hmid.2.1).2.2 k hk k hc rfl
  · exact (List.nodup_append.1 hmid.2.1).1

/-- A file that lies there is put under a name that is new. -/
theorem DiskAt.put_new {w w' : World} {b m clock : Nat} {d : Dsk} {fs : List FE} (h : DiskAt w b m d fs) {f : FE} (tn : Str) (hf : f.At w) (hdis : ∀ k ∈ f.blocks, k ∉ dskBlocks b m fs) (hnd : f.blocks.Nodup) (hclk : ∀ x ∈ fs, x.born < clock)
    (hm : w'.heap[m]? = some (.map (ents (fs.map FE.en ++ [⟨tn, .pointer (some ⟨f.fb, 0, none⟩), clock⟩])) (clock + 1))) (ho : ∀ k, k < w.heap.size → k ≠ m → w'.heap[k]? = w.heap[k]?)
    (ok : ({ d with files := d.files ++ [(tn, f.file)] } : Dsk).Ok) : DiskAt w' b m { d with files := d.files ++ [(tn, f.file)] } (fs ++ [{ f with name := tn, born := clock }]) := by
  have hnd0 := h.nodup
  have hlt := h.lt
  have hbm : b ≠ m := by simp only [dskBlocks, List.nodup_cons, List.mem_cons, not_or] at hnd0; exact hnd0.1.1
  have hmf : ∀ x ∈ fs, m ∉ x.blocks := by
    simp only [dskBlocks, List.nodup_cons, List.mem_cons, List.mem_flatMap, not_or] at hnd0
    exact fun x hx hc => hnd0.2.1 ⟨x, hx, hc⟩
  have hflt : ∀ k ∈ f.blocks, k < w.heap.size := fun k hk => by
    simp only [FE.blocks, List.mem_cons, Option.mem_toList] at hk
    rcases hk with rfl | hk
    · exact lt_of_block hf.blk
    · exact hf.own.lt k hk
  refine ⟨?_, ⟨clock + 1, ?_, ?_⟩, ?_, ?_, ?_, ?_, ok⟩
  · rw [ho b (hlt b (by simp [dskBlocks])) hbm]; exact h.hdr
  · rw [hm]; simp [FE.en]
  · intro x hx
    simp only [List.mem_append, List.mem_singleton] at hx
    rcases hx with hx | rfl
    · have := hclk x hx; omega
    · exact Nat.lt_succ_self _
  · show d.files ++ _ = _
    rw [h.files]; simp [FE.nf]
  · intro x hx
    simp only [List.mem_append, List.mem_singleton] at hx
    rcases hx with hx | rfl
    · exact (h.file x hx).keep fun k hk => ho k (hlt k (blocks_of hx hk)) (fun e => hmf x hx (e ▸ hk))
    · have h1 : f.At w' := hf.keep fun k hk => ho k (hflt k hk) (fun e => hdis k hk (by rw [e]; simp [dskBlocks]))
      exact ⟨h1.blk, h1.own⟩
  · have : dskBlocks b m (fs ++ [{ f with name := tn, born := clock }]) = dskBlocks b m fs ++ f.blocks := by simp [dskBlocks, FE.blocks]
    rw [this, List.nodup_append]
    exact ⟨hnd0, hnd, fun k hk c hc e => hdis c hc (e ▸ hk)⟩
  · rw [List.map_append, List.nodup_append]
    refine ⟨h.born, by simp, ?_⟩
    intro k hk c hc e
    obtain ⟨x, hx, rfl⟩ := List.mem_map.1 hk
    simp at hc
    have := hclk x hx
    omega

/-- A file that lies there is put in another one's place. -/
theorem DiskAt.put_over {w w' : World} {b m clock : Nat} {d : Dsk} {A B : List FE} {g : FE} (h : DiskAt w b m d (A ++ g :: B)) {f : FE} (hf : f.At w) (hdis : ∀ k ∈ f.blocks, k ∉ dskBlocks b m (A ++ g :: B)) (hnd : f.blocks.Nodup) (hclk : ∀ x ∈ A ++ g :: B, x.born < clock)
    (hm : w'.heap[m]? = some (.map (ents (A.map FE.en ++ ⟨g.name, .pointer (some ⟨f.fb, 0, none⟩), g.born⟩ :: B.map FE.en)) clock)) (ho : ∀ k, k < w.heap.size → k ≠ m → w'.heap[k]? = w.heap[k]?)
    (hA : g.name ∉ A.map FE.name) (ok : ({ d with files := setF d.files g.name f.file } : Dsk).Ok) : DiskAt w' b m { d with files := setF d.files g.name f.file } (A ++ { f with name := g.name, born := g.born } :: B) := by
  have hnd0 := h.nodup
  have hlt := h.lt
  have hbm : b ≠ m := by simp only [dskBlocks, List.nodup_cons, List.mem_cons, not_or] at hnd0; exact hnd0.1.1
  have hmf : ∀ x ∈ A ++ g :: B, m ∉ x.blocks := by
    simp only [dskBlocks, List.nodup_cons, List.mem_cons, List.mem_flatMap, not_or] at hnd0
    exact fun x hx hc => hnd0.2.1 ⟨x, hx, hc⟩
  have hflt : ∀ k ∈ f.blocks, k < w.heap.size := fun k hk => by
    simp only [FE.blocks, List.mem_cons, Option.mem_toList] at hk
    rcases hk with rfl | hk
    · exact lt_of_block hf.blk
    · exact hf.own.lt k hk
  have hset : setF d.files g.name f.file = A.map FE.nf ++ (g.name, f.file) :: B.map FE.nf := by
    rw [h.files, nf_mid]; exact setF_hit (by rw [names_of_FE]; exact hA)
  have keepX : ∀ x ∈ A ++ g :: B, x.At w' := fun x hx => (h.file x hx).keep fun k hk => ho k (hlt k (blocks_of hx hk)) (fun e => hmf x hx (e ▸ hk))
  refine ⟨?_, ⟨clock, ?_, ?_⟩, ?_, ?_, ?_, ?_, ok⟩
  · rw [ho b (hlt b (by simp [dskBlocks])) hbm]; exact h.hdr
  · rw [hm]; simp [FE.en]
  · intro x hx
    simp only [List.mem_append, List.mem_cons] at hx
    rcases hx with hx | rfl | hx
    · exact hclk x (by simp [hx])
    · exact hclk g (by simp)
    · exact hclk x (by simp [hx])
  · show setF d.files g.name f.file = _
    rw [hset, nf_mid]
  · intro x hx
    simp only [List.mem_append, List.mem_cons] at hx
    rcases hx with hx | rfl | hx
    · exact keepX x (by simp [hx])
    · have h1 : f.At w' := hf.keep fun k hk => ho k (hflt k hk) (fun e => hdis k hk (by rw [e]; simp [dskBlocks]))
      exact ⟨h1.blk, h1.own⟩
    · exact keepX x (by simp [hx])
  · have e1 : dskBlocks b m (A ++ { f with name := g.name, born := g.born } :: B) = (b :: m :: A.flatMap FE.blocks) ++ (f.blocks ++ B.flatMap FE.blocks) := by simp [dskBlocks, FE.blocks]
    have e2 : dskBlocks b m (A ++ g :: B) = (b :: m :: A.flatMap FE.blocks) ++ (g.blocks ++ B.flatMap FE.blocks) := by simp [dskBlocks, FE.blocks]
    rw [e2] at hnd0 hdis
    rw [e1]
    simp only [List.nodup_append] at hnd0 ⊢
    obtain ⟨n1, ⟨n2, n3, n4⟩, n5⟩ := hnd0
    refine ⟨n1, ⟨hnd, n3, ?_⟩, ?_⟩
    · intro k hk c hc e
      exact hdis k hk (List.mem_append_right _ (List.mem_append_right _ (e ▸ hc)))
    · intro k hk c hc e
      rw [List.mem_append] at hc
      rcases hc with hc | hc
      · exact hdis c hc (List.mem_append_left _ (e ▸ hk))
      · exact n5 k hk c (List.mem_append_right _ hc) e
  · have : (A ++ { f with name := g.name, born := g.born } :: B).map FE.born = (A ++ g :: B).map FE.born := by simp
    rw [this]; exact h.born

/-- A disk behind Rename is one that may be. -/
theorem Dsk.Ok.rename {d : Dsk} (ok : d.Ok) {a t : Str} (ha : a ∈ namesF d.files) (ht : okName t = true) : ({ d with files := setF (delF d.files a) t (fileOf d.files a) } : Dsk).Ok := by
  rcases split_name a d.files with h | ⟨A, f, B, hd, hA⟩
  · exact absurd ha h
  · have hfo : fileOf d.files a = f := by rw [hd]; simp [fileOf, getF_hit hA]
    have hdl : delF d.files a = A ++ B := by rw [hd]; exact delF_hit hA
    have ok1 := ok.del hd
    have hus := ok.used
    rw [hd, usedF_mid] at hus
    have hsy := ok.synced (a, f) (by rw [hd]; simp)
    have hfew := ok.few
    rw [hd] at hfew
    rw [hdl, hfo]
    rcases split_name t (A ++ B) with h | ⟨A', g, B', hd', hA'⟩
    · rw [setF_miss h]
      refine ⟨ok.most0, ok.most1, ok.arm0, ok.arm1, ?_, ?_, ?_, ?_, ?_⟩
      · show (namesF ((A ++ B) ++ [(t, f)])).Nodup
        rw [namesF_append, List.nodup_append]
        refine ⟨ok1.names, by simp [namesF], ?_⟩
        intro x hx c hc e
        simp [namesF] at hc
        subst hc; subst e; exact h hx
      · intro k hk
        have hk' : k ∈ namesF ((A ++ B) ++ [(t, f)]) := hk
        rw [namesF_append, List.mem_append] at hk'
        rcases hk' with hk | hk
        · exact ok1.named k hk
        · simp [namesF] at hk; subst hk; exact ht
      · show ((A ++ B) ++ [(t, f)]).length ≤ 200
        simp at hfew ⊢; omega
      · show ((usedF ((A ++ B) ++ [(t, f)]) : Nat) : Int) ≤ d.most
        rw [usedF_append, usedF_append]
        simp only [usedF, List.map_cons, List.map_nil, List.sum_cons, List.sum_nil] at hus ⊢
        omega
      · intro x hx
        have hx' : x ∈ (A ++ B) ++ [(t, f)] := hx
        rw [List.mem_append] at hx'
        rcases hx' with hx | hx
        · exact ok1.synced x hx
        · simp at hx; subst hx; exact hsy
    · rw [hd', setF_hit hA']
      have h1 : ({ d with files := A ++ B } : Dsk).files = A' ++ (t, g) :: B' := hd'
      have := ok1.upd (g := f) h1 hsy (by
        have e : usedF (A ++ B) = usedF A' + g.bytes.length + usedF B' := by rw [hd', usedF_mid]
        rw [usedF_append] at e
        show ((usedF A' + f.bytes.length + usedF B' : Nat) : Int) ≤ d.most
        omega)
      exact this
end Go.Proofs.YtihagdadbeoeoaaDoor
