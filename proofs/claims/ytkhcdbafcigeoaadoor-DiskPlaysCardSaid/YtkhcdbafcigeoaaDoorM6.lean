/-
  Texts merged by a program of this claim's: DiskM, Reg.
-/
import Derived.Test.YtkhcdbafcigeoaaDoorM4
import Derived.Test.YtkhcdbafcigeoaaDoorM1
/-
  The disk in memory, step by step: a file more, a file turned, a file gone; and that a disk stays one that may be.
-/
namespace Go.Proofs.YtkhcdbafcigeoaaDoor
open Go Go.RowKit

/-! ### Lists of blocks -/
theorem dskBlocks_mid (b m : Nat) (A B : List FE) (f : FE) : dskBlocks b m (A ++ f :: B) = (b :: m :: A.flatMap FE.blocks) ++ f.fb :: (f.sl.ownBlock.toList ++ B.flatMap FE.blocks) := by
  simp [dskBlocks, FE.blocks]
theorem dskBlocks_two (b m : Nat) (A B : List FE) : dskBlocks b m (A ++ B) = (b :: m :: A.flatMap FE.blocks) ++ B.flatMap FE.blocks := by
  simp [dskBlocks]

theorem nodup_fresh {X Y t t' : List Nat} {fb N : Nat} (h : (X ++ fb :: (t ++ Y)).Nodup) (hlt : ∀ k ∈ X ++ fb :: (t ++ Y), k < N) (ht : t' = t ∨ t' = [] ∨ ∃ g, t' = [g] ∧ N ≤ g) : (X ++ fb :: (t' ++ Y)).Nodup := by
  rcases ht with rfl | ht
  · exact h
  · have hsub : (X ++ fb :: Y).Sublist (X ++ fb :: (t ++ Y)) := List.Sublist.append_left (List.Sublist.cons_cons _ (List.sublist_append_right _ _)) _
    have h1 : (X ++ fb :: Y).Nodup := hsub.nodup h
    rcases ht with rfl | ⟨g, rfl, hg⟩
    · exact h1
    · have hp : (X ++ fb :: ([g] ++ Y)).Perm (g :: (X ++ fb :: Y)) := by
        have e1 : X ++ fb :: ([g] ++ Y) = (X ++ [fb]) ++ g :: Y := by simp
        have e2 : X ++ fb :: Y = (X ++ [fb]) ++ Y := by simp
        rw [e1, e2]
        exact List.perm_middle
      rw [hp.nodup_iff, List.nodup_cons]
      refine ⟨fun hc => ?_, h1⟩
      have := hlt g (hsub.subset hc)
      omega

/-! ### A disk stays one that may be -/
theorem usedF_append (A B : List (Str × DFile)) : usedF (A ++ B) = usedF A + usedF B := by simp [usedF]
theorem usedF_mid (A B : List (Str × DFile)) (n : Str) (f : DFile) : usedF (A ++ (n, f) :: B) = usedF A + f.bytes.length + usedF B := by
  simp [usedF, Nat.add_assoc]
theorem namesF_append (A B : List (Str × DFile)) : namesF (A ++ B) = namesF A ++ namesF B := by simp [namesF]

theorem Dsk.Ok.upd {d : Dsk} (ok : d.Ok) {A B : List (Str × DFile)} {n : Str} {f g : DFile} (hd : d.files = A ++ (n, f) :: B) (hs : g.synced ≤ g.bytes.length) (hu : (usedF A + g.bytes.length + usedF B : Nat) ≤ d.most) :
    ({ d with files := A ++ (n, g) :: B } : Dsk).Ok := by
  have hn := ok.names
  have hnn := ok.named
  have hf := ok.few
  have hsy := ok.synced
  rw [hd] at hn hnn hf hsy
  refine ⟨ok.most0, ok.most1, ok.arm0, ok.arm1, ?_, ?_, ?_, ?_, ?_⟩
  · simpa [namesF] using hn
  · simpa [namesF] using hnn
  · simpa using hf
  · show ((usedF (A ++ (n, g) :: B) : Nat) : Int) ≤ d.most
    rw [usedF_mid]; exact hu
  · intro x hx
    simp only [List.mem_append, List.mem_cons] at hx hsy
    rcases hx with hx | rfl | hx
    · exact hsy x (.inl hx)
    · exact hs
    · exact hsy x (.inr (.inr hx))

theorem Dsk.Ok.add {d : Dsk} (ok : d.Ok) {n : Str} (hn : n ∉ namesF d.files) (hok : okName n = true) (hf : d.files.length < 200) : ({ d with files := d.files ++ [(n, ⟨[], 0⟩)] } : Dsk).Ok := by
  refine ⟨ok.most0, ok.most1, ok.arm0, ok.arm1, ?_, ?_, ?_, ?_, ?_⟩
  · show (namesF (d.files ++ [(n, ⟨[], 0⟩)])).Nodup
    rw [namesF_append, List.nodup_append]
    refine ⟨ok.names, by simp [namesF], ?_⟩
    intro a ha c hc e
    simp [namesF] at hc
    subst hc; subst e; exact hn ha
  · intro k hk
    have hk' : k ∈ namesF (d.files ++ [(n, ⟨[], 0⟩)]) := hk
    rw [namesF_append, List.mem_append] at hk'
    rcases hk' with hk | hk
    · exact ok.named k hk
    · simp [namesF] at hk; subst hk; exact hok
  · show (d.files ++ [(n, (⟨[], 0⟩ : DFile))]).length ≤ 200
    simp; omega
  · show ((usedF (d.files ++ [(n, ⟨[], 0⟩)]) : Nat) : Int) ≤ d.most
    rw [usedF_append]; simpa [usedF] using ok.used
  · intro x hx
    have hx' : x ∈ d.files ++ [(n, (⟨[], 0⟩ : DFile))] := hx
    rw [List.mem_append] at hx'
    rcases hx' with hx | hx
    · exact ok.synced x hx
    · simp at hx; subst hx; exact Nat.le_refl _

theorem Dsk.Ok.del {d : Dsk} (ok : d.Ok) {A B : List (Str × DFile)} {x : Str × DFile} (hd : d.files = A ++ x :: B) : ({ d with files := A ++ B } : Dsk).Ok := by
  have hsub : (A ++ B).Sublist d.files := by rw [hd]; exact List.Sublist.append_left (List.sublist_cons_self _ _) _
  refine ⟨ok.most0, ok.most1, ok.arm0, ok.arm1, (hsub.map Prod.fst).nodup ok.names, fun k hk => ok.named k ((hsub.map Prod.fst).subset hk), Nat.le_trans hsub.length_le ok.few, ?_, fun x hx => ok.synced x (hsub.subset hx)⟩
  show ((usedF (A ++ B) : Nat) : Int) ≤ d.most
  have h := ok.used
  rw [hd] at h
  obtain ⟨k, g⟩ := x
  rw [usedF_mid] at h
  rw [usedF_append]; omega

/-! ### In memory -/
theorem DiskAt.mem {w : World} {b m : Nat} {d : Dsk} {A B : List FE} {f : FE} (h : DiskAt w b m d (A ++ f :: B)) : f.At w := h.file f (by simp)

theorem nf_mid (A B : List FE) (f : FE) : (A ++ f :: B).map FE.nf = A.map FE.nf ++ (f.name, f.file) :: B.map FE.nf := by simp [FE.nf]
theorem names_of_FE (A : List FE) : namesF (A.map FE.nf) = A.map FE.name := by simp [namesF, List.map_map, Function.comp_def, FE.nf]

/-- A file is turned. -/
theorem DiskAt.upd {w w' : World} {b m : Nat} {d : Dsk} {A B : List FE} {f : FE} (h : DiskAt w b m d (A ++ f :: B)) (g : DFile) (sl : Value)
    (ho : ∀ k, k < w.heap.size → k ∉ f.blocks → w'.heap[k]? = w.heap[k]?)
    (hf : FE.At w' { f with file := g, sl := sl }) (hsl : sl.ownBlock = f.sl.ownBlock ∨ ∀ k, sl.ownBlock = some k → w.heap.size ≤ k) (hA : f.name ∉ A.map FE.name)
    (hs : g.synced ≤ g.bytes.length) (hu : (usedF (A.map FE.nf) + g.bytes.length + usedF (B.map FE.nf) : Nat) ≤ d.most) :
    DiskAt w' b m { d with files := setF d.files f.name g } (A ++ { f with file := g, sl := sl } :: B) := by
  have hfile : d.files = A.map FE.nf ++ (f.name, f.file) :: B.map FE.nf := by rw [h.files, nf_mid]
  have hset : setF d.files f.name g = A.map FE.nf ++ (f.name, g) :: B.map FE.nf := by
    rw [hfile]; exact setF_hit (by rw [names_of_FE]; exact hA)
  have hnd := h.nodup
  rw [dskBlocks_mid] at hnd
  have hlt := h.lt
  rw [dskBlocks_mid] at hlt
  have hdis : ∀ k, k ∈ (b :: m :: A.flatMap FE.blocks) ∨ k ∈ B.flatMap FE.blocks → k ∉ f.blocks := by
    intro k hk hc
    have hc' : k ∈ f.fb :: f.sl.ownBlock.toList := hc
    have e : (b :: m :: A.flatMap FE.blocks) ++ f.fb :: (f.sl.ownBlock.toList ++ B.flatMap FE.blocks) = (b :: m :: A.flatMap FE.blocks) ++ ((f.fb :: f.sl.ownBlock.toList) ++ B.flatMap FE.blocks) := by simp
    rw [e, List.nodup_append] at hnd
    rcases hk with hk | hk
    · exact hnd.2.2 k hk k (List.mem_append_left _ hc') rfl
    · exact (List.nodup_append.1 hnd.2.1).2.2 k hc' k hk rfl
  have hltX : ∀ k, k ∈ (b :: m :: A.flatMap FE.blocks) ∨ k ∈ B.flatMap FE.blocks → k < w.heap.size := fun k hk => hlt k (by
    rcases hk with hk | hk
    · exact List.mem_append_left _ hk
    · exact List.mem_append_right _ (List.mem_cons_of_mem _ (List.mem_append_right _ hk)))
  have same : ∀ k, k ∈ (b :: m :: A.flatMap FE.blocks) ∨ k ∈ B.flatMap FE.blocks → w'.heap[k]? = w.heap[k]? := fun k hk => ho k (hltX k hk) (hdis k hk)
  obtain ⟨clock, h1, h2⟩ := h.map
  refine ⟨?_, ⟨clock, ?_, ?_⟩, ?_, ?_, ?_, ?_, ?_⟩
  · rw [same b (.inl (by simp))]; exact h.hdr
  · rw [same m (.inl (by simp))]
    have : (A ++ { f with file := g, sl := sl } :: B).map FE.en = (A ++ f :: B).map FE.en := by simp [FE.en]
    rw [this]; exact h1
  · intro x hx
    simp only [List.mem_append, List.mem_cons] at hx
    rcases hx with hx | rfl | hx
    · exact h2 x (by simp [hx])
    · exact h2 f (by simp)
    · exact h2 x (by simp [hx])
  · show setF d.files f.name g = _
    rw [hset, nf_mid]
  · intro x hx
    simp only [List.mem_append, List.mem_cons] at hx
    rcases hx with hx | rfl | hx
    · exact (h.file x (by simp [hx])).keep fun k hk => same k (.inl (by simp only [List.mem_cons, List.mem_flatMap]; exact .inr (.inr ⟨x, hx, hk⟩)))
    · exact hf
    · exact (h.file x (by simp [hx])).keep fun k hk => same k (.inr (by rw [List.mem_flatMap]; exact ⟨x, hx, hk⟩))
  · rw [dskBlocks_mid]
    refine nodup_fresh hnd hlt ?_
    show sl.ownBlock.toList = _ ∨ _
    rcases hsl with hsl | hsl
    · exact .inl (by rw [hsl])
    · cases hb : sl.ownBlock with
      | none => exact .inr (.inl rfl)
      | some k => exact .inr (.inr ⟨k, rfl, hsl k hb⟩)
  · have : (A ++ { f with file := g, sl := sl } :: B).map FE.born = (A ++ f :: B).map FE.born := by simp
    rw [this]; exact h.born
  · rw [hset]
    exact h.ok.upd hfile hs hu

/-- The blocks behind a file's turn: the old ones, or new ones. -/
theorem blocks_upd {b m N : Nat} {A B : List FE} {f : FE} {g : DFile} {sl : Value} (hsl : sl.ownBlock = f.sl.ownBlock ∨ ∀ k, sl.ownBlock = some k → N ≤ k) :
    ∀ k ∈ dskBlocks b m (A ++ { f with file := g, sl := sl } :: B), k ∈ dskBlocks b m (A ++ f :: B) ∨ N ≤ k := by
  intro k hk
  rw [dskBlocks_mid] at hk
  rw [dskBlocks_mid]
  simp only [List.mem_append, List.mem_cons, Option.mem_toList] at hk ⊢
  rcases hk with hk | hk | hk | hk
  · exact .inl (.inl hk)
  · exact .inl (.inr (.inl hk))
  · rcases hsl with hsl | hsl
    · rw [hsl] at hk; exact .inl (.inr (.inr (.inl hk)))
    · exact .inr (hsl k hk)
  · exact .inl (.inr (.inr (.inr hk)))

/-- A file more. -/
theorem DiskAt.add {w w' : World} {b m clock : Nat} {d : Dsk} {fs : List FE} (h : DiskAt w b m d fs) (n : Str) (fb : Nat) (hclk : ∀ f ∈ fs, f.born < clock)
    (hm : w'.heap[m]? = some (.map (ents (fs.map FE.en ++ [⟨n, .pointer (some ⟨fb, 0, none⟩), clock⟩])) (clock + 1))) (hfb : w'.heap[fb]? = some (.cells #[.slice none 0 0, .int .i64 0] 68 (0, 0))) (hnew : w.heap.size ≤ fb)
    (ho : ∀ k, k < w.heap.size → k ≠ m → w'.heap[k]? = w.heap[k]?) (hn : n ∉ namesF d.files) (hok : okName n = true) (hfew : d.files.length < 200) :
    DiskAt w' b m { d with files := d.files ++ [(n, ⟨[], 0⟩)] } (fs ++ [⟨n, ⟨[], 0⟩, fb, .slice none 0 0, clock⟩]) := by
  have hnd := h.nodup
  have hlt := h.lt
  have hbm : b ≠ m := by simp only [dskBlocks, List.nodup_cons, List.mem_cons, not_or] at hnd; exact hnd.1.1
  have hmf : ∀ f ∈ fs, m ∉ f.blocks := by
    simp only [dskBlocks, List.nodup_cons, List.mem_cons, List.mem_flatMap, not_or] at hnd
    exact fun f hf hc => hnd.2.1 ⟨f, hf, hc⟩
  refine ⟨?_, ⟨clock + 1, ?_, ?_⟩, ?_, ?_, ?_, ?_, h.ok.add hn hok hfew⟩
  · rw [ho b (hlt b (by simp [dskBlocks])) hbm]; exact h.hdr
  · rw [hm]; simp [FE.en]
  · intro x hx
    simp only [List.mem_append, List.mem_singleton] at hx
    rcases hx with hx | rfl
    · have := hclk x hx; omega
    · exact Nat.lt_succ_self _
  · show d.files ++ _ = _
    rw [h.files]; simp [FE.nf]
  · intro x hx
    simp only [List.mem_append, List.mem_singleton] at hx
    rcases hx with hx | rfl
    · exact (h.file x hx).keep fun k hk => ho k (hlt k (by simp only [dskBlocks, List.mem_cons, List.mem_flatMap]; exact .inr (.inr ⟨x, hx, hk⟩))) (fun e => hmf x hx (e ▸ hk))
    · exact ⟨hfb, RowF.nil⟩
  · have : dskBlocks b m (fs ++ [⟨n, ⟨[], 0⟩, fb, .slice none 0 0, clock⟩]) = dskBlocks b m fs ++ [fb] := by simp [dskBlocks, FE.blocks, Value.ownBlock]
    rw [this, List.nodup_append]
    refine ⟨hnd, by simp, ?_⟩
    intro k hk c hc e
    simp at hc
    have := hlt k hk
    omega
  · rw [List.map_append, List.nodup_append]
    refine ⟨h.born, by simp, ?_⟩
    intro k hk c hc e
    obtain ⟨x, hx, rfl⟩ := List.mem_map.1 hk
    simp at hc
    have := hclk x hx
    omega
end Go.Proofs.YtkhcdbafcigeoaaDoor

/-
  Program-independent: a drawn region in which some operations only read, whatever else the others turn (in a class of worlds): those may be taken first, in the text's order; then a few that do something, then a tail that waits for all of them.
-/
namespace Go.Proofs.YtkhcdbafcigeoaaDoor
open Go Go.RowKit

section
variable {P : Program} {ops : Array Oper} {md : Region.Mode} {C : World → Prop} {Q : Exit → Act → World → Prop}

/-- In every world of the class the operation hands back v, and turns nothing. -/
def YieldsW (P : Program) (ops : Array Oper) (C : World → Prop) (o : Oper) (v : Value) (a : Act) : Prop :=
  (Region.wanted o (yielded ops a.tmps) = true ∧ ∀ w, C w → (execOp a.eval o).run P w = .ok (.value v) w) ∨
  (Region.wanted o (yielded ops a.tmps) = false ∧ v = undef)

theorem YieldsW.of_same {o : Oper} {v : Value} {a a' : Act} (hy : YieldsW P ops C o v a) (he : execOp a'.eval o = execOp a.eval o)
    (hw : Region.wanted o (yielded ops a'.tmps) = Region.wanted o (yielded ops a.tmps)) : YieldsW P ops C o v a' := by
  unfold YieldsW at *
  rw [he, hw]
  exact hy
theorem YieldsW.wpOp {i : Nat} {o : Oper} {v : Value} {a : Act} (hi : ops[i]? = some o) (hy : YieldsW P ops C o v a)
    {K : Act → World → Prop} {w : World} (hC : C w) (h : K (a.put o.dst v) w) : wpOp P ops Q i K a w := by
  unfold Go.wpOp
  simp only [hi]
  rcases hy with ⟨hw, hv⟩ | ⟨hw, rfl⟩
  · simp only [hw, if_true, Oper.wp, hv w hC, Oper.upon]; exact .inl h
  · simp only [hw, Bool.false_eq_true, if_false]; exact h

theorem wpOp_putW {j : Nat} {oi oj : Oper} {v : Value} (hj : ops[j]? = some oj) (hap : oi.apart ops oj = true)
    (hsi : ∀ cs b, oi.op ≠ .select cs b) (hsj : ∀ cs b, oj.op ≠ .select cs b)
    (hQ : ∀ c a w, Q (.panic c) (a.put oi.dst v) w → Q (.panic c) a w) {D : World → Prop} {K : Act → World → Prop} {a : Act} {w : World}
    (hy : YieldsW P ops C oi v a) (h : wpOp P ops Q j (fun a' w' => D w' ∧ K a' w') (a.put oi.dst v) w) :
    wpOp P ops Q j (fun a' w' => D w' ∧ YieldsW P ops C oi v a' ∧ K (a'.put oi.dst v) w') a w := by
  obtain ⟨h1, h2, h3⟩ := Oper.apart_spec hap
  have keep : ∀ (a : Act), YieldsW P ops C oi v a → ∀ u, YieldsW P ops C oi v (a.put oj.dst u) := fun a hy u =>
    hy.of_same (execOp_put oi hsi a oj.dst u h3) (wanted_put oi a oj.dst u h3)
  have keepD : ∀ d, YieldsW P ops C oi v { a with defers := d :: a.defers } := fun d => hy.of_same rfl rfl
  unfold wpOp at *
  simp only [hj] at *
  rw [wanted_put oj a oi.dst v h1] at h
  split
  · rename_i hw
    simp only [hw, if_true] at h
    rcases h with h | ⟨hasks, hlets⟩
    case inr => exact .inr ⟨by unfold Oper.asks at *; rw [execOp_put oj hsj a oi.dst v h1] at hasks; exact hasks, hlets⟩
    refine .inl ?_
    unfold Oper.wp at *
    rw [execOp_put oj hsj a oi.dst v h1] at h
    generalize (execOp a.eval oj).run P w = r at *
    cases r with
    | ok n w' =>
      cases n <;> simp only [Oper.upon] at h ⊢
      case value u => exact ⟨h.1, keep a hy u, by rw [← Act.put_comm a v u h2]; exact h.2⟩
      case skip => exact ⟨h.1, keep a hy _, by rw [← Act.put_comm a v undef h2]; exact h.2⟩
      case defer d =>
        refine ⟨h.1, keep _ (keepD d) _, ?_⟩
        rw [← Act.put_comm _ v undef h2, ← Act.put_defers]
        exact h.2
      case enter f args =>
        refine Calls.mono h fun e w'' he => ?_
        cases e with
        | returned u => exact ⟨he.1, keep a hy u, by rw [← Act.put_comm a v u h2]; exact he.2⟩
        | panicked c => exact hQ _ _ _ he
        | outgrown => exact he
      case row row args => exact Rows.mono h fun u w'' he => ⟨he.1, keep a hy u, by rw [← Act.put_comm a v u h2]; exact he.2⟩
    | halt x w' =>
      cases x <;> simp only [Oper.upon] at h ⊢
      case panic u => exact hQ _ _ _ h
  · rename_i hw
    simp only [hw] at h
    exact ⟨h.1, keep a hy _, by rw [← Act.put_comm a v undef h2]; exact h.2⟩

/-- Every order; the operations ahead of number n stay in the class. -/
def wpAnyK (P : Program) (md : Region.Mode) (ops : Array Oper) (C : World → Prop) (n : Nat) (Q : Exit → Act → World → Prop) : Nat → Array Bool → Act → World → Prop
  | 0, listed, a, w => Region.ready md ops listed = [] ∧ Q .normal a w
  | f + 1, listed, a, w =>
    (Region.ready md ops listed = [] → Q .normal a w) ∧
    ∀ i ∈ Region.ready md ops listed, wpOp P ops Q i (fun a' w' => (i < n → C w') ∧ wpAnyK P md ops C n Q f (listed.setIfInBounds i true) a' w') a w

theorem wpAny_of_K {n : Nat} : ∀ (f : Nat) (listed : Array Bool) (a : Act) (w : World), wpAnyK P md ops C n Q f listed a w → wpAny P md ops Q f listed a w
  | 0, _, _, _, h => h
  | f + 1, _, _, _, h => ⟨h.1, fun i hi => wpOp_mono (fun a' w' h' => wpAny_of_K f _ a' w' h'.2) (h.2 i hi)⟩

theorem wpAnyK_first {n i : Nat} {oi : Oper} {v : Value} (hi : ops[i]? = some oi) (hsel : ∀ (j : Nat) (o : Oper) cs b, ops[j]? = some o → o.op ≠ .select cs b)
    (hQ : ∀ c a w, Q (.panic c) (a.put oi.dst v) w → Q (.panic c) a w)
    (hs : Region.sinkB md ops n = true) (hc : Region.chainB md ops n = true) (hn : n < ops.size) (hin : i < n) :
    ∀ (f : Nat) (listed : Array Bool) (a : Act) (w : World), C w → HeadInv md ops n listed →
      (∀ j oj, ops[j]? = some oj → j ≠ i → listed.getD j true = false → (∀ e ∈ oj.after, Region.binds md e = true → e.on ≠ i) → oi.apart ops oj = true) →
      i ∈ Region.ready md ops listed → YieldsW P ops C oi v a →
      wpAnyK P md ops C n Q f (listed.setIfInBounds i true) (a.put oi.dst v) w → wpAnyK P md ops C n Q (f + 1) listed a w := by
  intro f
  induction f with
  | zero =>
    intro listed a w hC _ _ hr hy H
    refine ⟨fun h => (by rw [h] at hr; cases hr), fun j hj => ?_⟩
    by_cases hji : j = i
    · subst hji; exact hy.wpOp hi hC ⟨fun _ => hC, H⟩
    · have := ready_mono hj hji
      rw [H.1] at this
      cases this
  | succ f ih =>
    intro listed a w hC inv hfree hr hy H
    have hun := (mem_ready.1 hr).1
    refine ⟨fun h => (by rw [h] at hr; cases hr), fun j hj => ?_⟩
    have hjn : j < n := by
      rcases Nat.lt_or_ge j n with h | h
      · exact h
      · exact absurd hj (tail_waits hs hc hn inv _ i rfl hin hun j h)
    by_cases hji : j = i
    · subst hji; exact hy.wpOp hi hC ⟨fun _ => hC, H⟩
    · have h1 := H.2 j (ready_mono hj hji)
      obtain ⟨hjun, oj, hoj, hall⟩ := mem_ready.1 hj
      have hnot : ∀ e ∈ oj.after, Region.binds md e = true → e.on ≠ i := fun e he hb heq => by
        have h1 := hall e he hb
        rw [heq, getD_both hun] at h1
        cases h1
      have h2 := wpOp_putW hoj (hfree j oj hoj hji hjun hnot) (fun cs b => hsel i oi cs b hi) (fun cs b => hsel j oj cs b hoj) hQ hy h1
      have hfree' : ∀ k ok, ops[k]? = some ok → k ≠ i → (listed.setIfInBounds j true).getD k true = false →
          (∀ e ∈ ok.after, Region.binds md e = true → e.on ≠ i) → oi.apart ops ok = true := fun k ok hk hki hun hno => by
        refine hfree k ok hk hki ?_ hno
        by_cases hjk : j = k
        · subst hjk; exact hjun
        · rw [getD_set_ne true hjk] at hun; exact hun
      refine wpOp_mono (fun a' w' h3 => ⟨h3.1, ih (listed.setIfInBounds j true) a' w' (h3.1 hjn) (inv.set hj hjn) hfree' (ready_mono hr (Ne.symm hji)) h3.2.1 ?_⟩) h2
      rw [Array.setIfInBounds_comm _ _ hji]
      exact h3.2.2

/-- The operations of a list of numbers, one by one, each in its turn; those ahead of n stay in the class. -/
def wpNums (P : Program) (ops : Array Oper) (C : World → Prop) (n : Nat) (Q : Exit → Act → World → Prop) : List Nat → Act → World → Prop
  | [], a, w => Q .normal a w
  | i :: l, a, w => wpOp P ops Q i (fun a' w' => (i < n → C w') ∧ wpNums P ops C n Q l a' w') a w
def Region.numsB (md : Region.Mode) (ops : Array Oper) : List Nat → Array Bool → Bool
  | [], listed => (Region.ready md ops listed).isEmpty
  | i :: l, listed => decide (Region.ready md ops listed = [i]) && Region.numsB md ops l (listed.setIfInBounds i true)
theorem wpAnyK_nums {n : Nat} : ∀ (l : List Nat) (listed : Array Bool) (a : Act) (w : World), Region.numsB md ops l listed = true → wpNums P ops C n Q l a w → wpAnyK P md ops C n Q l.length listed a w
  | [], listed, a, w, hB, h => ⟨by simpa [Region.numsB] using hB, h⟩
  | i :: l, listed, a, w, hB, h => by
    simp only [Region.numsB, Bool.and_eq_true, decide_eq_true_eq] at hB
    refine ⟨fun h1 => (by rw [hB.1] at h1; cases h1), fun j hj => ?_⟩
    rw [hB.1] at hj
    have : j = i := by simpa using hj
    subst this
    exact wpOp_mono (fun a' w' h' => ⟨h'.1, wpAnyK_nums l _ a' w' hB.2 h'.2⟩) h

/-- One operation that only reads, in the class. -/
def Oper.reads (P : Program) (o : Oper) (a : Act) (C : World → Prop) (next : Act → Prop) : Prop := ∃ v, (∀ w, C w → (execOp a.eval o).run P w = .ok (.value v) w) ∧ next (a.put o.dst v)
def wpReads (P : Program) (ops : Array Oper) (C : World → Prop) (K : Act → Prop) : List Nat → Act → Prop
  | [], a => K a
  | i :: l, a => match ops[i]? with
    | none => False
    | some o => if Region.wanted o (yielded ops a.tmps) then Oper.reads P o a C (wpReads P ops C K l) else wpReads P ops C K l (a.put o.dst undef)
def Region.readsB (md : Region.Mode) (ops : Array Oper) (n : Nat) (r : List Nat) : List Nat → Array Bool → Bool
  | [], listed => Region.numsB md ops r listed
  | i :: l, listed => decide (i < n) && (Region.ready md ops listed).contains i && Region.free md ops listed i && Region.readsB md ops n r l (listed.setIfInBounds i true)

theorem wpAnyK_reads {n : Nat} (hsel : Region.noSelect ops = true) (hs : Region.sinkB md ops n = true) (hc : Region.chainB md ops n = true) (hn : n < ops.size)
    (hQ : ∀ (c : List PanicEntry) (a : Act) (d : Tmp) (v : Value) (w : World), Q (.panic c) (a.put (some d) v) w → Q (.panic c) a w) (r : List Nat) (w : World) (hC : C w) :
    ∀ (l : List Nat) (listed : Array Bool) (a : Act), HeadInv md ops n listed → Region.readsB md ops n r l listed = true → wpReads P ops C (fun a' => wpNums P ops C n Q r a' w) l a →
      wpAnyK P md ops C n Q (l.length + r.length) listed a w
  | [], listed, a, _, hB, h => by rw [List.length_nil, Nat.zero_add]; exact wpAnyK_nums r listed a w hB h
  | i :: l, listed, a, inv, hB, h => by
    simp only [Region.readsB, Bool.and_eq_true, decide_eq_true_eq] at hB
    obtain ⟨⟨⟨hin, hr⟩, hf⟩, hB'⟩ := hB
    have hr' : i ∈ Region.ready md ops listed := by simpa using hr
    obtain ⟨_, o, ho, _⟩ := mem_ready.1 hr'
    simp only [wpReads, ho] at h
    have key : ∃ v, YieldsW P ops C o v a ∧ wpReads P ops C (fun a' => wpNums P ops C n Q r a' w) l (a.put o.dst v) := by
      by_cases hw : Region.wanted o (yielded ops a.tmps) = true
      · simp only [hw, if_true] at h
        obtain ⟨v, h1, h2⟩ := h
        exact ⟨v, .inl ⟨hw, h1⟩, h2⟩
      · simp only [hw] at h
        exact ⟨undef, .inr ⟨by simpa using hw, rfl⟩, h⟩
    obtain ⟨v, hy, hK⟩ := key
    rw [show (i :: l).length + r.length = (l.length + r.length) + 1 by simp only [List.length_cons]; omega]
    exact wpAnyK_first ho (Region.noSelect_spec hsel) (fun c a w h => by cases hdst : o.dst with | none => (rw [hdst] at h; exact h) | some d => (rw [hdst] at h; exact hQ c a d v w h)) hs hc hn hin (l.length + r.length) listed a w hC inv (Region.free_spec ho hf) hr' hy
      (wpAnyK_reads hsel hs hc hn hQ r w hC l _ _ (inv.set hr' hin) hB' hK)

/-- The whole: 'hd': what only reads; 'r': what is done, and the tail (from n on), in this order. -/
def Region.mixB (ops : Array Oper) (n : Nat) (hd r : List Nat) : Bool :=
  Region.noSelect ops && decide (n < ops.size) && Region.sinkB .any ops n && Region.chainB .any ops n && decide (hd.length + r.length = ops.size) && Region.readsB .any ops n r hd (Array.replicate ops.size false)

theorem wp_region_mix {id : Nat} {a : Act} {w : World} {l : List Oper} (n : Nat) (hd r : List Nat) (C : World → Prop) (hm : P.follows .mixedOrders = true) (hB : Region.mixB l.toArray n hd r = true)
    (hQ : ∀ (c : List PanicEntry) (a : Act) (d : Tmp) (v : Value) (w : World), Q (.panic c) (a.put (some d) v) w → Q (.panic c) a w) (hC : C w.drew)
    (h : wpReads P l.toArray C (fun a' => wpNums P l.toArray C n Q r a' w.drew) hd a) : (Code.region id l.toArray true).wp P Q a w := by
  simp only [Region.mixB, Bool.and_eq_true, decide_eq_true_eq] at hB
  obtain ⟨⟨⟨⟨⟨hsel, hn⟩, hs⟩, hc⟩, hlen⟩, hR⟩ := hB
  have inv0 : HeadInv .any l.toArray n (Array.replicate l.toArray.size false) :=
    ⟨by simp, fun j oj _ hl => (by rw [getD_replicate_false] at hl; cases hl), fun t _ ht => getD_in (by simpa using ht) (getD_replicate_false _ _)⟩
  have H := wpAnyK_reads (md := .any) hsel hs hc hn hQ r w.drew hC hd _ a inv0 hR h
  have H' := wpAny_of_K _ _ _ _ H
  rw [hlen] at H'
  exact wp_region_any hm H'

/-! The steps of such a walk -/
theorem wpReads_nil {K : Act → Prop} {a : Act} (h : K a) : wpReads P ops C K [] a := h
theorem wpReads_cons {K : Act → Prop} {a : Act} {i : Nat} {l : List Nat} {o : Oper} (ho : ops[i]? = some o)
    (h : ∀ K' : Act → Prop, (∀ a, wpReads P ops C K l a → K' a) → if Region.wanted o (yielded ops a.tmps) then Oper.reads P o a C K' else K' (a.put o.dst undef)) : wpReads P ops C K (i :: l) a := by
  simp only [wpReads, ho]; exact h _ (fun _ h => h)
theorem wpNums_cons {n : Nat} {a : Act} {w : World} {i : Nat} {l : List Nat} {o : Oper} (ho : ops[i]? = some o)
    (h : wpList P ops (Exit.then (fun a' w' => (i < n → C w') ∧ wpNums P ops C n Q l a' w') Q) [o] a w) : wpNums P ops C n Q (i :: l) a w := by
  simp only [wpNums, wpOp, ho]
  simp only [wpList] at h
  split
  · rename_i hw
    rw [if_pos hw] at h
    rcases h with h | ⟨h1, h2⟩
    · refine .inl ?_
      unfold Oper.wp at *
      generalize (execOp a.eval o).run P w = r at *
      cases r with
      | ok n w' =>
        cases n <;> simp only [Oper.upon] at h ⊢
        case value u => exact h
        case skip => exact h
        case defer d => exact h
        case enter f args => exact Calls.mono h fun e w'' he => by cases e <;> exact he
        case row row args => exact h
      | halt x w' =>
        cases x <;> simp only [Oper.upon] at h ⊢
        case panic u => exact h
    · exact .inr ⟨h1, h2⟩
  · rename_i hw
    rw [if_neg hw] at h
    exact h
theorem wpNums_nil {n : Nat} {a : Act} {w : World} (h : Q .normal a w) : wpNums P ops C n Q [] a w := h
end

/-- A world of the class, under one name. -/
structure InC (C : World → Prop) where
  w : World
  h : C w
theorem wp_region_in {P : Program} {Q : Exit → Act → World → Prop} {id : Nat} {a : Act} {w : World} {l : List Oper} (n : Nat) (hd r : List Nat) (C : World → Prop) (hm : P.follows .mixedOrders = true) (hB : Region.mixB l.toArray n hd r = true)
    (hQ : ∀ (c : List PanicEntry) (a : Act) (d : Tmp) (v : Value) (w : World), Q (.panic c) (a.put (some d) v) w → Q (.panic c) a w) (hC : C w.drew)
    (h : wpReads P l.toArray (fun w' => ∃ p : InC C, w' = p.w) (fun a' => wpNums P l.toArray (fun w' => ∃ p : InC C, w' = p.w) n Q r a' w.drew) hd a) : (Code.region id l.toArray true).wp P Q a w :=
  wp_region_mix n hd r (fun w' => ∃ p : InC C, w' = p.w) hm hB hQ ⟨⟨_, hC⟩, rfl⟩ h
attribute [go_sem] Oper.reads
end Go.Proofs.YtkhcdbafcigeoaaDoor
