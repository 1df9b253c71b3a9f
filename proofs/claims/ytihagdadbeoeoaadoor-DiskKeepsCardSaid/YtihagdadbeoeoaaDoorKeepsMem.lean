/-
  amanuensislaw02.DiskKeeps: what its three arrays hold, beside the disk: in memory, and in plain words.
-/
import Derived.Test.YtihagdadbeoeoaaDoorPicks
import Derived.Test.YtihagdadbeoeoaaDoorHasX
import Derived.Test.YtihagdadbeoeoaaDoorFacts
import Derived.Test.YtihagdadbeoeoaaDoorOpens
import Derived.Test.YtihagdadbeoeoaaDoorCut
namespace Go.Proofs.YtihagdadbeoeoaaDoor.DiskKeeps
open Go Go.RowKit Go.Sort
set_option maxRecDepth 100000
set_option maxHeartbeats 1600000

/-- The three names. -/
def nm (j : Nat) : Str := if j = 0 then [97] else if j = 1 then [98] else [99]
theorem nm_inj {i j : Nat} (hi : i < 3) (hj : j < 3) (h : nm i = nm j) : i = j := by
  have h1 : i = 0 ∨ i = 1 ∨ i = 2 := by omega
  have h2 : j = 0 ∨ j = 1 ∨ j = 2 := by omega
  rcases h1 with rfl | rfl | rfl <;> rcases h2 with rfl | rfl | rfl <;> first | rfl | (exact absurd h (by decide))
theorem nm_len (j : Nat) : (nm j).length ≤ 9223372036854775807 := by unfold nm; split <;> (try split) <;> decide
def upd {α : Type} (f : Nat → α) (k : Nat) (x : α) : Nat → α := fun j => if j = k then x else f j
theorem upd_same {α : Type} (f : Nat → α) (k : Nat) (x : α) : upd f k x k = x := by simp [upd]
theorem upd_other {α : Type} (f : Nat → α) {k j : Nat} (x : α) (h : j ≠ k) : upd f k x j = f j := by simp [upd, h]
theorem set3 (f : Nat → Value) {k : Nat} (hk : k < 3) (x : Value) : (#[f 0, f 1, f 2] : Array Value).setIfInBounds k x = #[upd f k x 0, upd f k x 1, upd f k x 2] := by
  have h : k = 0 ∨ k = 1 ∨ k = 2 := by omega
  rcases h with rfl | rfl | rfl <;> simp [upd]
theorem get3 (f : Nat → Value) {k : Nat} (hk : k < 3) : (#[f 0, f 1, f 2] : Array Value)[k]? = some (f k) := by
  have h : k = 0 ∨ k = 1 ∨ k = 2 := by omega
  rcases h with rfl | rfl | rfl <;> rfl
theorem map_upd {α β : Type} (g : α → β) (f : Nat → α) (k : Nat) (x : α) (j : Nat) : upd (fun i => g (f i)) k (g x) j = g (upd f k x j) := by unfold upd; split <;> rfl

/-- What a file is, beside what the law has written down of it. -/
def FileIs (d : Dsk) (j : Nat) (A : List UInt8) (s : Nat) (t : Bool) : Prop := if t then getF d.files (nm j) = some ⟨A, s⟩ else getF d.files (nm j) = none ∧ A = [] ∧ s = 0
structure Inv (d : Dsk) (A : Nat → List UInt8) (s : Nat → Nat) (t : Nat → Bool) (B : Nat) : Prop where
  file : ∀ j, j < 3 → FileIs d j (A j) (s j) (t j)
  len : ∀ j, j < 3 → (A j).length ≤ B

def KX (q p8 p9 p10 : Nat) (V : Nat → Value) (A : Nat → List UInt8) (k : Nat) : Prop := k = q ∨ k = p8 ∨ k = p9 ∨ k = p10 ∨ ∃ j, j < 3 ∧ A j ≠ [] ∧ (V j).ownBlock = some k
/-- The arrays in memory. -/
structure KMem (w wr : World) (q p8 p9 p10 a : Nat) (V : Nat → Value) (A : Nat → List UInt8) (s : Nat → Nat) (t : Nat → Bool) (d : Dsk) : Prop where
  ord : w.heap.size ≤ q ∧ q < p8 ∧ p8 < p9 ∧ p9 < p10
  names : wr.heap[q]? = some (.cells #[.string ⟨(nm 0).toArray⟩, .string ⟨(nm 1).toArray⟩, .string ⟨(nm 2).toArray⟩] 9 (0, 0))
  h8 : wr.heap[p8]? = some (.cells #[V 0, V 1, V 2] 30 (0, 0))
  h9 : wr.heap[p9]? = some (.cells #[.int .i64 (s 0), .int .i64 (s 1), .int .i64 (s 2)] 31 (0, 0))
  h10 : wr.heap[p10]? = some (.cells #[.bool (t 0), .bool (t 1), .bool (t 2)] 32 (0, 0))
  bs : ∀ j, j < 3 → Bs wr (V j) (A j)
  top : ∀ j, j < 3 → A j ≠ [] → ∀ g, (V j).ownBlock = some g → p10 < g
  has : HasX (KX q p8 p9 p10 V A) w wr a d

section
variable {w wr wr' : World} {q p8 p9 p10 a : Nat} {V : Nat → Value} {A : Nat → List UInt8} {s : Nat → Nat} {t : Nat → Bool} {d d' : Dsk}
theorem KMem.did (h : KMem w wr q p8 p9 p10 a V A s t d) (hH : HasX (KX q p8 p9 p10 V A) w wr' a d') (hK : Kept (KX q p8 p9 p10 V A) wr wr') : KMem w wr' q p8 p9 p10 a V A s t d' :=
  ⟨h.ord, (hK.2 _ (.inl rfl) (lt_of_block h.names)).trans h.names, (hK.2 _ (.inr (.inl rfl)) (lt_of_block h.h8)).trans h.h8, (hK.2 _ (.inr (.inr (.inl rfl))) (lt_of_block h.h9)).trans h.h9,
    (hK.2 _ (.inr (.inr (.inr (.inl rfl)))) (lt_of_block h.h10)).trans h.h10, fun j hj => (h.bs j hj).kept hK (fun hne g hg => .inr (.inr (.inr (.inr ⟨j, hj, hne, hg⟩)))), h.top, hH⟩
theorem KMem.nw (h : KMem w wr q p8 p9 p10 a V A s t d) (hw : Nw wr wr') : KMem w wr' q p8 p9 p10 a V A s t d := h.did (h.has.nw hw) hw.kept
theorem KMem.name (h : KMem w wr q p8 p9 p10 a V A s t d) {k : Nat} (hk : k < 3) : wr.cell? ⟨q, k, none⟩ = some (.string ⟨(nm k).toArray⟩) := by
  have := get3 (fun j => .string ⟨(nm j).toArray⟩) hk
  simp only [World.cell?, h.names]; simpa using this
theorem KMem.all (h : KMem w wr q p8 p9 p10 a V A s t d) {k : Nat} (hk : k < 3) : wr.cell? ⟨p8, k, none⟩ = some (V k) := by
  have := get3 V hk
  simp only [World.cell?, h.h8]; simpa using this
theorem KMem.sure (h : KMem w wr q p8 p9 p10 a V A s t d) {k : Nat} (hk : k < 3) : wr.cell? ⟨p9, k, none⟩ = some (.int .i64 (s k)) := by
  have := get3 (fun j => .int .i64 (s j)) hk
  simp only [World.cell?, h.h9]; simpa using this
theorem KMem.there (h : KMem w wr q p8 p9 p10 a V A s t d) {k : Nat} (hk : k < 3) : wr.cell? ⟨p10, k, none⟩ = some (.bool (t k)) := by
  have := get3 (fun j => .bool (t j)) hk
  simp only [World.cell?, h.h10]; simpa using this
theorem KMem.free (h : KMem w wr q p8 p9 p10 a V A s t d) (k : Nat) : wr.frozen? ⟨p8, k, none⟩ = false ∧ wr.frozen? ⟨p9, k, none⟩ = false ∧ wr.frozen? ⟨p10, k, none⟩ = false := by
  simp [World.frozen?, h.h8, h.h9, h.h10]
theorem KMem.setAll (h : KMem w wr q p8 p9 p10 a V A s t d) {k : Nat} (hk : k < 3) {v : Value} {L : List UInt8} (hn : Nw wr wr') (hb : Bs wr' v L)
    (hv : L ≠ [] → ∀ g, v.ownBlock = some g → p10 < g ∧ (KX q p8 p9 p10 V A g ∨ wr.heap.size ≤ g)) : KMem w (wr'.setCell ⟨p8, k, none⟩ v) q p8 p9 p10 a (upd V k v) (upd A k L) s t d := by
  have O : Only (fun b => b = p8) wr' (wr'.setCell ⟨p8, k, none⟩ v) := (Only.refl wr').setCell (S := fun b => b = p8) (p := ⟨p8, k, none⟩) (fun _ => rfl) v
  obtain ⟨o1, o2, o3, o4⟩ := h.ord
  refine ⟨h.ord, O.at_ (hn.at_ h.names) (by omega), ?_, O.at_ (hn.at_ h.h9) (by omega), O.at_ (hn.at_ h.h10) (by omega), fun j hj => ?_, fun j hj => ?_, ?_⟩
  · have := heap_setCell_at (hn.at_ h.h8) k v
    rw [set3 V hk] at this; exact this
  · by_cases e : j = k
    · subst e; rw [upd_same, upd_same]; exact hb.keep O (fun hne g hg => by have := (hv hne g hg).1; omega)
    · rw [upd_other _ _ e, upd_other _ _ e]; exact ((h.bs j hj).nw hn).keep O (fun hne g hg => by have := h.top j hj hne g hg; omega)
  · by_cases e : j = k
    · subst e; rw [upd_same, upd_same]; exact fun hne g hg => (hv hne g hg).1
    · rw [upd_other _ _ e, upd_other _ _ e]; exact h.top j hj
  · have hY : HasX (fun b => KX q p8 p9 p10 V A b ∨ (L ≠ [] ∧ v.ownBlock = some b)) w wr' a d := h.has.nwY hn (fun b hb' => by
      rcases hb' with hb' | ⟨hne, hg⟩
      · exact .inl hb'
      · rcases (hv hne b hg).2 with h2 | h2
        · exact .inl h2
        · exact .inr ⟨h2, hb.lt hne b hg⟩)
    refine hY.put O (fun b hb' _ => ?_) (fun b hb' => .inl ?_)
    · subst hb'; exact ⟨.inl (.inr (.inl rfl)), by omega⟩
    · rcases hb' with e | e | e | e | ⟨j, hj, hne, hg⟩
      · exact .inl (.inl e)
      · exact .inl (.inr (.inl e))
      · exact .inl (.inr (.inr (.inl e)))
      · exact .inl (.inr (.inr (.inr (.inl e))))
      · by_cases e : j = k
        · subst e; rw [upd_same] at hne hg; exact .inr ⟨hne, hg⟩
        · rw [upd_other _ _ e] at hne hg; exact .inl (.inr (.inr (.inr (.inr ⟨j, hj, hne, hg⟩))))
theorem KMem.setSure (h : KMem w wr q p8 p9 p10 a V A s t d) {k : Nat} (hk : k < 3) (n : Nat) : KMem w (wr.setCell ⟨p9, k, none⟩ (.int .i64 n)) q p8 p9 p10 a V A (upd s k n) t d := by
  have O : Only (fun b => b = p9) wr (wr.setCell ⟨p9, k, none⟩ (.int .i64 n)) := (Only.refl wr).setCell (S := fun b => b = p9) (p := ⟨p9, k, none⟩) (fun _ => rfl) _
  obtain ⟨o1, o2, o3, o4⟩ := h.ord
  refine ⟨h.ord, O.at_ h.names (by omega), O.at_ h.h8 (by omega), ?_, O.at_ h.h10 (by omega), fun j hj => (h.bs j hj).keep O (fun hne g hg => by have := h.top j hj hne g hg; omega), h.top, ?_⟩
  · have := heap_setCell_at h.h9 k (.int .i64 n)
    rw [set3 (fun j => .int .i64 (s j)) hk] at this
    have e := fun j => map_upd (fun m : Nat => Value.int .i64 m) s k n j
    simp only [e] at this; exact this
  · exact h.has.put O (fun b hb' _ => by subst hb'; exact ⟨.inr (.inr (.inl rfl)), by omega⟩) (fun b hb' => .inl hb')
theorem KMem.setThere (h : KMem w wr q p8 p9 p10 a V A s t d) {k : Nat} (hk : k < 3) (n : Bool) : KMem w (wr.setCell ⟨p10, k, none⟩ (.bool n)) q p8 p9 p10 a V A s (upd t k n) d := by
  have O : Only (fun b => b = p10) wr (wr.setCell ⟨p10, k, none⟩ (.bool n)) := (Only.refl wr).setCell (S := fun b => b = p10) (p := ⟨p10, k, none⟩) (fun _ => rfl) _
  obtain ⟨o1, o2, o3, o4⟩ := h.ord
  refine ⟨h.ord, O.at_ h.names (by omega), O.at_ h.h8 (by omega), O.at_ h.h9 (by omega), ?_, fun j hj => (h.bs j hj).keep O (fun hne g hg => by have := h.top j hj hne g hg; omega), h.top, ?_⟩
  · have := heap_setCell_at h.h10 k (.bool n)
    rw [set3 (fun j => .bool (t j)) hk] at this
    have e := fun j => map_upd (fun m : Bool => Value.bool m) t k n j
    simp only [e] at this; exact this
  · exact h.has.put O (fun b hb' _ => by subst hb'; exact ⟨.inr (.inr (.inr (.inl rfl))), by omega⟩) (fun b hb' => .inl hb')
end

/-! ### Plain: what an operation does to the three files -/
section
variable {d d' : Dsk} {A : Nat → List UInt8} {s : Nat → Nat} {t : Nat → Bool} {B : Nat}
theorem op_files {may x : Int} {act : List (Str × DFile) → List (Str × DFile)} (h : d.op may act = (d', x)) : (x = 0 ∧ may = 0 ∧ d'.files = act d.files) ∨ (x ≠ 0 ∧ d'.files = d.files) := by
  unfold Dsk.op at h
  split at h
  · obtain ⟨rfl, rfl⟩ := Prod.mk.inj h; exact .inr ⟨by decide, rfl⟩
  · split at h
    · obtain ⟨rfl, rfl⟩ := Prod.mk.inj h; rename_i hm; exact .inr ⟨hm, rfl⟩
    · rename_i hm
      split at h
      · obtain ⟨rfl, rfl⟩ := Prod.mk.inj h; exact .inr ⟨by decide, rfl⟩
      · obtain ⟨rfl, rfl⟩ := Prod.mk.inj h; exact .inl ⟨rfl, by simpa using hm, rfl⟩
theorem Inv.same (h : Inv d A s t B) (hf : d'.files = d.files) : Inv d' A s t B := ⟨fun j hj => by have := h.file j hj; unfold FileIs at this ⊢; rw [hf]; exact this, h.len⟩
theorem Inv.wide (h : Inv d A s t B) {C : Nat} (hc : B ≤ C) : Inv d A s t C := ⟨h.file, fun j hj => Nat.le_trans (h.len j hj) hc⟩
theorem FileIs.of {j : Nat} {A' : List UInt8} {s' : Nat} {t' : Bool} (h : FileIs d j A' s' t') : fileOf d.files (nm j) = ⟨A', s'⟩ := by
  unfold FileIs at h
  cases t'
  · simp only [Bool.false_eq_true, if_false] at h; simp [fileOf, h.1, h.2.1, h.2.2]
  · simp only [if_true] at h; simp [fileOf, h]
theorem Inv.append (h : Inv d A s t B) {k : Nat} (hk : k < 3) {l : List UInt8} (hl : l.length ≤ 100) (hr : d.append (nm k) l = (d', 0)) : Inv d' (upd A k (A k ++ l)) s (upd t k true) (B + 100) := by
  rcases op_files hr with ⟨-, -, hf⟩ | ⟨h0, -⟩
  · refine ⟨fun j hj => ?_, fun j hj => ?_⟩
    · by_cases e : j = k
      · subst e
        unfold FileIs
        rw [upd_same, upd_same, if_pos rfl, hf, getF_setF, if_pos rfl, (h.file j hj).of]
      · have := h.file j hj
        rw [upd_other _ _ e, upd_other _ _ e]
        unfold FileIs at this ⊢
        rw [hf, getF_setF, if_neg (show ¬ nm k = nm j from fun e' => e (nm_inj hj hk e'.symm))]; exact this
    · by_cases e : j = k
      · subst e; rw [upd_same, List.length_append]; have := h.len j hj; omega
      · rw [upd_other _ _ e]; have := h.len j hj; omega
  · exact absurd rfl h0
theorem Inv.sync (h : Inv d A s t B) {k : Nat} (hk : k < 3) (hr : d.sync (nm k) = (d', 0)) : Inv d' A (upd s k (A k).length) t B := by
  rcases op_files hr with ⟨-, hm, hf⟩ | ⟨h0, -⟩
  · refine ⟨fun j hj => ?_, h.len⟩
    by_cases e : j = k
    · subst e
      have ht : t j = true := by
        cases htj : t j
        · have := h.file j hj
          unfold FileIs at this
          rw [htj] at this
          simp only [Bool.false_eq_true, if_false] at this
          have hn := (getF_none _ _).1 this.1
          unfold Dsk.there at hm
          rw [if_neg hn] at hm
          exact absurd hm (by decide)
        · rfl
      unfold FileIs
      rw [upd_same, ht, if_pos rfl, hf, getF_setF, if_pos rfl, (h.file j hj).of]
    · have := h.file j hj
      rw [upd_other _ _ e]
      unfold FileIs at this ⊢
      rw [hf, getF_setF, if_neg (show ¬ nm k = nm j from fun e' => e (nm_inj hj hk e'.symm))]; exact this
  · exact absurd rfl h0
theorem getF_delF (n m : Str) : ∀ L : List (Str × DFile), (namesF L).Nodup → getF (delF L n) m = if n = m then none else getF L m
  | [], _ => by simp [delF, getF]
  | (k, g) :: L, hn => by
    have hn' : k ∉ namesF L ∧ (namesF L).Nodup := by simpa [namesF] using hn
    by_cases hk : k = n
    · subst hk
      by_cases hm : k = m
      · subst hm; simp [delF, (getF_none _ _).2 hn'.1]
      · simp [delF, getF, hm]
    · have ih := getF_delF n m L hn'.2
      by_cases hm : k = m
      · subst hm; simp [delF, getF, hk, Ne.symm hk]
      · simp [delF, getF, hk, hm, ih]
theorem Inv.rename (ok : d.Ok) (h : Inv d A s t B) {k o : Nat} (hk : k < 3) (ho : o < 3) (hne : o ≠ k) (hr : d.rename (nm k) (nm o) = (d', 0)) :
    Inv d' (upd (upd A o (A k)) k []) (upd (upd s o (s k)) k 0) (upd (upd t o true) k false) B := by
  rcases op_files hr with ⟨-, hm, hf⟩ | ⟨h0, -⟩
  · refine ⟨fun j hj => ?_, fun j hj => ?_⟩
    · unfold FileIs
      rw [hf, getF_setF, getF_delF _ _ _ ok.names]
      by_cases e : j = k
      · subst e
        rw [upd_same, upd_same, upd_same, if_neg (show ¬ nm o = nm j from fun e' => hne (nm_inj ho hj e')), if_pos rfl]
        simp
      · rw [upd_other _ _ e, upd_other _ _ e, upd_other _ _ e]
        by_cases e2 : j = o
        · subst e2
          rw [upd_same, upd_same, upd_same, if_pos rfl, if_pos rfl, (h.file k hk).of]
        · have := h.file j hj
          rw [upd_other _ _ e2, upd_other _ _ e2, upd_other _ _ e2, if_neg (show ¬ nm o = nm j from fun e' => e2 (nm_inj hj ho e'.symm)), if_neg (show ¬ nm k = nm j from fun e' => e (nm_inj hj hk e'.symm))]
          exact this
    · by_cases e : j = k
      · subst e; rw [upd_same]; simp
      · rw [upd_other _ _ e]
        by_cases e2 : j = o
        · subst e2; rw [upd_same]; exact h.len k hk
        · rw [upd_other _ _ e2]; exact h.len j hj
  · exact absurd rfl h0
theorem getF_crashF (m : Str) : ∀ (ns : List Str) (ks : List Int) (L : List (Str × DFile)), ns.Nodup → (∀ n ∈ ns, n ∈ namesF L) → (m ∈ ns → ∃ keep, getF (crashF ns ks L) m = (getF L m).map fun f => leaves f keep) ∧ (m ∉ ns → getF (crashF ns ks L) m = getF L m)
  | [], _, L, _, _ => ⟨(fun h => by cases h), (fun _ => rfl)⟩
  | n :: ns, ks, L, hn, hm => by
    obtain ⟨h1, h2⟩ := List.nodup_cons.1 hn
    have ih := getF_crashF m ns ks.tail (setF L n (leaves (fileOf L n) (ks.headD 0))) h2 (fun x hx => by
      rw [← Decidable.not_not (p := x ∈ namesF _), ← getF_none, getF_setF]
      split
      · simp
      · rw [getF_none]; simpa using hm x (by simp [hx]))
    have hg : ∃ f, getF L n = some f := by
      cases hg : getF L n with
      | none => exact absurd (hm n (by simp)) ((getF_none _ _).1 hg)
      | some f => exact ⟨f, rfl⟩
    obtain ⟨f, hg⟩ := hg
    refine ⟨fun h => ?_, fun h => ?_⟩
    · by_cases e : m = n
      · subst e
        refine ⟨ks.headD 0, ?_⟩
        simp only [crashF]
        rw [ih.2 h1, getF_setF, if_pos rfl, hg]
        simp [fileOf, hg]
      · obtain ⟨keep, hkk⟩ := ih.1 ((List.mem_cons.1 h).resolve_left e)
        refine ⟨keep, ?_⟩
        simp only [crashF]
        rw [hkk, getF_setF, if_neg (fun e' => e e'.symm)]
    · simp only [List.mem_cons, not_or] at h
      simp only [crashF]
      rw [ih.2 h.2, getF_setF, if_neg (fun e' => h.1 e'.symm)]
theorem getF_crash (ok : d.Ok) (ks : List Int) (m : Str) : ∃ keep, getF (d.crash ks).files m = (getF d.files m).map fun f => leaves f keep := by
  have hn : d.list.Nodup := ((List.mergeSort_perm _ _).nodup_iff).2 ok.names
  have h := getF_crashF m d.list ks d.files hn (fun n hn => mem_list.1 hn)
  by_cases hm : m ∈ d.list
  · exact h.1 hm
  · refine ⟨0, ?_⟩
    have e : getF (d.crash ks).files m = getF d.files m := h.2 hm
    rw [e, (getF_none _ _).2 (fun h' => hm (mem_list.2 h'))]; rfl
theorem Inv.crash (ok : d.Ok) (h : Inv d A s t B) (ks : List Int) : ∃ m : Nat → Nat, (∀ j, j < 3 → s j ≤ m j ∧ m j ≤ (A j).length ∧ (t j = false → m j = 0 ∧ s j = 0)) ∧ Inv (d.crash ks) (fun j => (A j).take (m j)) m t B := by
  have key : ∀ j, ∃ mj, j < 3 → s j ≤ mj ∧ mj ≤ (A j).length ∧ (t j = false → mj = 0 ∧ s j = 0) ∧ FileIs (d.crash ks) j ((A j).take mj) mj (t j) := fun j => by
    by_cases hj : j < 3
    · have hf := h.file j hj
      obtain ⟨keep, hg⟩ := getF_crash ok ks (nm j)
      unfold FileIs at hf ⊢
      cases htj : t j
      · rw [htj] at hf
        simp only [Bool.false_eq_true, if_false] at hf ⊢
        exact ⟨0, fun _ => ⟨by omega, by omega, fun _ => ⟨rfl, hf.2.2⟩, by rw [hg, hf.1]; rfl, by simp, rfl⟩⟩
      · rw [htj] at hf
        simp only [if_true] at hf ⊢
        have hle := ok.synced _ (getF_some_mem hf)
        simp only at hle
        refine ⟨s j + min keep.toNat ((A j).length - s j), fun _ => ⟨by omega, by omega, (fun e => by cases e), ?_⟩⟩
        rw [hg, hf]; rfl
    · exact ⟨0, fun h => absurd h hj⟩
  obtain ⟨m, hm⟩ := Classical.axiomOfChoice key
  refine ⟨m, fun j hj => ⟨(hm j hj).1, (hm j hj).2.1, (hm j hj).2.2.1⟩, fun j hj => (hm j hj).2.2.2, fun j hj => ?_⟩
  have := h.len j hj
  rw [List.length_take]; omega
theorem Inv.read (h : Inv d A s t B) (hd : d.down = false) {j : Nat} (hj : j < 3) : d.read (nm j) = (A j, if t j then 0 else 13) := by
  have hf := h.file j hj
  unfold FileIs at hf
  unfold Dsk.read
  cases htj : t j
  · rw [htj] at hf
    simp only [Bool.false_eq_true, if_false] at hf ⊢
    rw [hd, hf.1, hf.2.1]; rfl
  · rw [htj] at hf
    simp only [if_true] at hf ⊢
    rw [hd, hf]; rfl
end
end Go.Proofs.YtihagdadbeoeoaaDoor.DiskKeeps
