/-
  The disk in memory, step by step: a file more, a file turned, a file gone; and that a disk stays one that may be.
-/
import Derived.Test.YtihagdadbeoeoaaDoorDiskE
namespace Go.Proofs.YtihagdadbeoeoaaDoor
open Go Go.RowKit

/-! ### Lists of blocks -/
theorem dskBlocks_mid (b m : Nat) (A B : List FE) (f : FE) : dskBlocks b m (A ++ f :: B) = (b :: m :: A.flatMap FE.blocks) ++ f.fb :: (f.sl.ownBlock.toList ++ B.flatMap FE.blocks) := by
  simp [dskBlocks, FE.blocks]
theorem dskBlocks_two (b m : Nat) (A B : List FE) : dskBlocks b m (A ++ B) = (b :: m :: A.flatMap FE.blocks) ++ B.flatMap FE.blocks := by
  simp [dskBlocks]

theorem nodup_fresh {X Y t t' : List Nat} {fb N : Nat} (h : (X ++ fb :: (t ++ Y)).Nodup) (hlt : ∀ k ∈ X ++ fb :: (t ++ Y), k < N) (ht : t' = t ∨ t' = [] ∨ ∃ g, t' = [g] ∧ N ≤ g) : (X ++ fb :: (t' ++ Y)).Nodup := by
  rcases ht with rfl | ht
  · exact h
  · have hsub : (X ++ fb :: Y).Sublist (X ++ fb :: (t ++ Y)) := List.Sublist.append_left (List.Sublist.cons_cons _ (List.sublist_append_right _ _)) _
    have h1 : (X ++ fb :: Y).Nodup := hsub.nodup h
    rcases ht with rfl | ⟨g, rfl, hg⟩
    · exact h1
    · have hp : (X ++ fb :: ([g] ++ Y)).Perm (g :: (X ++ fb :: Y)) := by
        have e1 : X ++ fb :: ([g] ++ Y) = (X ++ [fb]) ++ g :: Y := by simp
        have e2 : X ++ fb :: Y = (X ++ [fb]) ++ Y := by simp
        rw [e1, e2]
        exact List.perm_middle
      rw [hp.nodup_iff, List.nodup_cons]
      refine ⟨fun hc => ?_, h1⟩
      have := hlt g (hsub.subset hc)
      omega

/-! ### A disk stays one that may be -/
theorem usedF_append (A B : List (Str × DFile)) : usedF (A ++ B) = usedF A + usedF B := by simp [usedF]
theorem usedF_mid (A B : List (Str × DFile)) (n : Str) (f : DFile) : usedF (A ++ (n, f) :: B) = usedF A + f.bytes.length + usedF B := by
  simp [usedF, Nat.add_assoc]
theorem namesF_append (A B : List (Str × DFile)) : namesF (A ++ B) = namesF A ++ namesF B := by simp [namesF]

theorem Dsk.Ok.upd {d : Dsk} (ok : d.Ok) {A B : List (Str × DFile)} {n : Str} {f g : DFile} (hd : d.files = A ++ (n, f) :: B) (hs : g.synced ≤ g.bytes.length) (hu : (usedF A + g.bytes.length + usedF B : Nat) ≤ d.most) :
    ({ d with files := A ++ (n, g) :: B } : Dsk).Ok := by
  have hn := ok.names
  have hnn := ok.named
  have hf := ok.few
  have hsy := ok.synced
  rw [hd] at hn hnn hf hsy
  refine ⟨ok.most0, ok.most1, ok.arm0, ok.arm1, ?_, ?_, ?_, ?_, ?_⟩
  · simpa [namesF] using hn
  · simpa [namesF] using hnn
  · simpa using hf
  · show ((usedF (A ++ (n, g) :: B) : Nat) : Int) ≤ d.most
    rw [usedF_mid]; exact hu
  · intro x hx
    simp only [List.mem_append, List.mem_cons] at hx hsy
    rcases hx with hx | rfl | hx
    · exact hsy x (.inl hx)
    · exact hs
    · exact hsy x (.inr (.inr hx))

theorem Dsk.Ok.add {d : Dsk} (ok : d.Ok) {n : Str} (hn : n ∉ namesF d.files) (hok : okName n = true) (hf : d.files.length < 200) : ({ d with files := d.files ++ [(n, ⟨[], 0⟩)] } : Dsk).Ok := by
  refine ⟨ok.most0, ok.most1, ok.arm0, ok.arm1, ?_, ?_, ?_, ?_, ?_⟩
  · show (namesF (d.files ++ [(n, ⟨[], 0⟩)])).Nodup
    rw [namesF_append, List.nodup_append]
    refine ⟨ok.names, by simp [namesF], ?_⟩
    intro a ha c hc e
    simp [namesF] at hc
    subst hc; subst e; exact hn ha
  · intro k hk
    have hk' : k ∈ namesF (d.files ++ [(n, ⟨[], 0⟩)]) := hk
    rw [namesF_append, List.mem_append] at hk'
    rcases hk' with hk | hk
    · exact ok.named k hk
    · simp [namesF] at hk; subst hk; exact hok
  · show (d.files ++ [(n, (⟨[], 0⟩ : DFile))]).length ≤ 200
    simp; omega
  · show ((usedF (d.files ++ [(n, ⟨[], 0⟩)]) : Nat) : Int) ≤ d.most
    rw [usedF_append]; simpa [usedF] using ok.used
  · intro x hx
    have hx' : x ∈ d.files ++ [(n, (⟨[], 0⟩ : DFile))] := hx
    rw [List.mem_append] at hx'
    rcases hx' with hx | hx
    · exact ok.synced x hx
    · simp at hx; subst hx; exact Nat.le_refl _

theorem Dsk.Ok.del {d : Dsk} (ok : d.Ok) {A B : List (Str × DFile)} {x : Str × DFile} (hd : d.files = A ++ x :: B) : ({ d with files := A ++ B } : Dsk).Ok := by
  have hsub : (A ++ B).Sublist d.files := by rw [hd]; exact List.Sublist.append_left (List.sublist_cons_self _ _) _
  refine ⟨ok.most0, ok.most1, ok.arm0, ok.arm1, (hsub.map Prod.fst).nodup ok.names, fun k hk => ok.named k ((hsub.map Prod.fst).subset hk), Nat.le_trans hsub.length_le ok.few, ?_, fun x hx => ok.synced x (hsub.subset hx)⟩
  show ((usedF (A ++ B) : Nat) : Int) ≤ d.most
  have h := ok.used
  rw [hd] at h
  obtain ⟨k, g⟩ := x
  rw [usedF_mid] at h
  rw [usedF_append]; omega

/-! ### In memory -/
theorem DiskAt.mem {w : World} {b m : Nat} {d : Dsk} {A B : List FE} {f : FE} (h : DiskAt w b m d (A ++ f :: B)) : f.At w := h.file f (by simp)

theorem nf_mid (A B : List FE) (f : FE) : (A ++ f :: B).map FE.nf = A.map FE.nf ++ (f.name, f.file) :: B.map FE.nf := by simp [FE.nf]
theorem names_of_FE (A : List FE) : namesF (A.map FE.nf) = A.map FE.name := by simp [namesF, List.map_map, Function.comp_def, FE.nf]

/-- A file is turned. -/
theorem DiskAt.upd {w w' : World} {b m : Nat} {d : Dsk} {A B : List FE} {f : FE} (h : DiskAt w b m d (A ++ f :: B)) (g : DFile) (sl : Value)
    (ho : ∀ k, k < w.heap.size → k ∉ f.blocks → w'.heap[k]? = w.heap[k]?)
    (hf : FE.At w' { f with file := g, sl := sl }) (hsl : sl.ownBlock = f.sl.ownBlock ∨ ∀ k, sl.ownBlock = some k → w.heap.size ≤ k) (hA : f.name ∉ A.map FE.name)
    (hs : g.synced ≤ g.bytes.length) (hu : (usedF (A.map FE.nf) + g.bytes.length + usedF (B.map FE.nf) : Nat) ≤ d.most) :
    DiskAt w' b m { d with files := setF d.files f.name g } (A ++ { f with file := g, sl := sl } :: B) := by
  have hfile : d.files = A.map FE.nf ++ (f.name, f.file) :: B.map FE.nf := by rw [h.files, nf_mid]
  have hset : setF d.files f.name g = A.map FE.nf ++ (f.name, g) :: B.map FE.nf := by
    rw [hfile]; exact setF_hit (by rw [names_of_FE]; exact hA)
  have hnd := h.nodup
  rw [dskBlocks_mid] at hnd
  have hlt := h.lt
  rw [dskBlocks_mid] at hlt
  have hdis : ∀ k, k ∈ (b :: m :: A.flatMap FE.blocks) ∨ k ∈ B.flatMap FE.blocks → k ∉ f.blocks := by
    intro k hk hc
    have hc' : k ∈ f.fb :: f.sl.ownBlock.toList := hc
    have e : (b :: m :: A.flatMap FE.blocks) ++ f.fb :: (f.sl.ownBlock.toList ++ B.flatMap FE.blocks) = (b :: m :: A.flatMap FE.blocks) ++ ((f.fb :: f.sl.ownBlock.toList) ++ B.flatMap FE.blocks) := by simp
    rw [e, List.nodup_append] at hnd
    rcases hk with hk | hk
    · exact hnd.2.2 k hk k (List.mem_append_left _ hc') rfl
    · exact (List.nodup_append.1 hnd.2.1).2.2 k hc' k hk rfl
  have hltX : ∀ k, k ∈ (b :: m :: A.flatMap FE.blocks) ∨ k ∈ B.flatMap FE.blocks → k < w.heap.size := fun k hk => hlt k (by
    rcases hk with hk | hk
    · exact List.mem_append_left _ hk
    · exact List.mem_append_right _ (List.mem_cons_of_mem _ (List.mem_append_right _ hk)))
  have same : ∀ k, k ∈ (b :: m :: A.flatMap FE.blocks) ∨ k ∈ B.flatMap FE.blocks → w'.heap[k]? = w.heap[k]? := fun k hk => ho k (hltX k hk) (hdis k hk)
  obtain ⟨clock, h1, h2⟩ := h.map
  refine ⟨?_, ⟨clock, ?_, ?_⟩, ?_, ?_, ?_, ?_, ?_⟩
  · rw [same b (.inl (by simp))]; exact h.hdr
  · rw [same m (.inl (by simp))]
    have : (A ++ { f with file := g, sl := sl } :: B).map FE.en = (A ++ f :: B).map FE.en := by simp [FE.en]
    rw [this]; exact h1
  · intro x hx
    simp only [List.mem_append, List.mem_cons] at hx
    rcases hx with hx | rfl | hx
    · exact h2 x (by simp [hx])
    · exact h2 f (by simp)
    · exact h2 x (by simp [hx])
  · show setF d.files f.name g = _
    rw [hset, nf_mid]
  · intro x hx
    simp only [List.mem_append, List.mem_cons] at hx
    rcases hx with hx | rfl | hx
    · exact (h.file x (by simp [hx])).keep fun k hk => same k (.inl (by simp only [List.mem_cons, List.mem_flatMap]; exact .inr (.inr ⟨x, hx, hk⟩)))
    · exact hf
    · exact (h.file x (by simp [hx])).keep fun k hk => same k (.inr (by rw [List.mem_flatMap]; exact ⟨x, hx, hk⟩))
  · rw [dskBlocks_mid]
    refine nodup_fresh hnd hlt ?_
    show sl.ownBlock.toList = _ ∨ _
    rcases hsl with hsl | hsl
    · exact .inl (by rw [hsl])
    · cases hb : sl.ownBlock with
      | none => exact .inr (.inl rfl)
      | some k => exact .inr (.inr ⟨k, rfl, hsl k hb⟩)
  · have : (A ++ { f with file := g, sl := sl } :: B).map FE.born = (A ++ f :: B).map FE.born := by simp
    rw [this]; exact h.born
  · rw [hset]
    exact h.ok.upd hfile hs hu

/-- The blocks behind a file's turn: the old ones, or new ones. -/
theorem blocks_upd {b m N : Nat} {A B : List FE} {f : FE} {g : DFile} {sl : Value} (hsl : sl.ownBlock = f.sl.ownBlock ∨ ∀ k, sl.ownBlock = some k → N ≤ k) :
    ∀ k ∈ dskBlocks b m (A ++ { f with file := g, sl := sl } :: B), k ∈ dskBlocks b m (A ++ f :: B) ∨ N ≤ k := by
  intro k hk
  rw [dskBlocks_mid] at hk
  rw [dskBlocks_mid]
  simp only [List.mem_append, List.mem_cons, Option.mem_toList] at hk ⊢
  rcases hk with hk | hk | hk | hk
  · exact .inl (.inl hk)
  · exact .inl (.inr (.inl hk))
  · rcases hsl with hsl | hsl
    · rw [hsl] at hk; exact .inl (.inr (.inr (.inl hk)))
    · exact .inr (hsl k hk)
  · exact .inl (.inr (.inr (.inr hk)))

/-- A file more. -/
theorem DiskAt.add {w w' : World} {b m clock : Nat} {d : Dsk} {fs : List FE} (h : DiskAt w b m d fs) (n : Str) (fb : Nat) (hclk : ∀ f ∈ fs, f.born < clock)
    (hm : w'.heap[m]? = some (.map (ents (fs.map FE.en ++ [⟨n, .pointer (some ⟨fb, 0, none⟩), clock⟩])) (clock + 1))) (hfb : w'.heap[fb]? = some (.cells #[.slice none 0 0, .int .i64 0] 90 (0, 0))) (hnew : w.heap.size ≤ fb)
    (ho : ∀ k, k < w.heap.size → k ≠ m → w'.heap[k]? = w.heap[k]?) (hn : n ∉ namesF d.files) (hok : okName n = true) (hfew : d.files.length < 200) :
    DiskAt w' b m { d with files := d.files ++ [(n, ⟨[], 0⟩)] } (fs ++ [⟨n, ⟨[], 0⟩, fb, .slice none 0 0, clock⟩]) := by
  have hnd := h.nodup
  have hlt := h.lt
  have hbm : b ≠ m := by simp only [dskBlocks, List.nodup_cons, List.mem_cons, not_or] at hnd; exact hnd.1.1
  have hmf : ∀ f ∈ fs, m ∉ f.blocks := by
    simp only [dskBlocks, List.nodup_cons, List.mem_cons, List.mem_flatMap, not_or] at hnd
    exact fun f hf hc => hnd.2.1 ⟨f, hf, hc⟩
  refine ⟨?_, ⟨clock + 1, ?_, ?_⟩, ?_, ?_, ?_, ?_, h.ok.add hn hok hfew⟩
  · rw [ho b (hlt b (by simp [dskBlocks])) hbm]; exact h.hdr
  · rw [hm]; simp [FE.en]
  · intro x hx
    simp only [List.mem_append, List.mem_singleton] at hx
    rcases hx with hx | rfl
    · have := hclk x hx; omega
    · exact Nat.lt_succ_self _
  · show d.files ++ _ = _
    rw [h.files]; simp [FE.nf]
  · intro x hx
    simp only [List.mem_append, List.mem_singleton] at hx
    rcases hx with hx | rfl
    · exact (h.file x hx).keep fun k hk => ho k (hlt k (by simp only [dskBlocks, List.mem_cons, List.mem_flatMap]; exact .inr (.inr ⟨x, hx, hk⟩))) (fun e => hmf x hx (e ▸ hk))
    · exact ⟨hfb, RowF.nil⟩
  · have : dskBlocks b m (fs ++ [⟨n, ⟨[], 0⟩, fb, .slice none 0 0, clock⟩]) = dskBlocks b m fs ++ [fb] := by simp [dskBlocks, FE.blocks, Value.ownBlock]
    rw [this, List.nodup_append]
    refine ⟨hnd, by simp, ?_⟩
    intro k hk c hc e
    simp at hc
    have := hlt k hk
    omega
  · rw [List.map_append, List.nodup_append]
    refine ⟨h.born, by simp, ?_⟩
    intro k hk c hc e
    obtain ⟨x, hx, rfl⟩ := List.mem_map.1 hk
    simp at hc
    have := hclk x hx
    omega
end Go.Proofs.YtihagdadbeoeoaaDoor
