/-
  Slices whose elements take one cell each: what they read as, a row of one's own, and append: run once, for every kind of element.
-/
import Derived.Test.YtihagdadbeoeoaaDoorLib
import Derived.Laws.AppendOwn
import Derived.OwnWalk
namespace Go.Proofs.YtihagdadbeoeoaaDoor
open Go Go.RowKit

abbrev i64v (k : Int) : Value := .int .i64 k
/-- A slice (anybody's) whose elements take one cell each, and read as l. -/
def Rd {α : Type} (f : α → Value) (w : World) (v : Value) (l : List α) : Prop :=
  (∃ a, v = .slice a 0 0 ∧ l = []) ∨ ∃ g o cap, v = .slice (some ⟨g, o, none⟩) l.length cap ∧ l.length ≤ cap ∧ cap ≤ maxLen ∧ g < w.heap.size ∧
    ∀ i (h : i < l.length), w.cell? ⟨g, o + i, none⟩ = some (f l[i])
theorem Rd.keep {α : Type} {f : α → Value} {S : Nat → Prop} {w w' : World} {v : Value} {l : List α} (h : Rd f w v l) (ho : Only S w w') (hb : l ≠ [] → ∀ g, v.ownBlock = some g → ¬ S g) : Rd f w' v l := by
  rcases h with h | ⟨g, o, cap, rfl, h1, h2, hg, h3⟩
  · exact .inl h
  · exact .inr ⟨g, o, cap, rfl, h1, h2, Nat.lt_of_lt_of_le hg ho.size, fun i hi => ho.cell (h3 i hi) (hb (fun e => by rw [e] at hi; exact absurd hi (by simp)) g rfl)⟩
theorem Rd.nw {α : Type} {f : α → Value} {w w' : World} {v : Value} {l : List α} (h : Rd f w v l) (ho : Nw w w') : Rd f w' v l := h.keep ho (fun _ _ _ hf => hf)
theorem Rd.lt {α : Type} {f : α → Value} {w : World} {v : Value} {l : List α} (h : Rd f w v l) (hne : l ≠ []) : ∀ g, v.ownBlock = some g → g < w.heap.size := by
  rcases h with ⟨a, rfl, e⟩ | ⟨g, o, cap, rfl, h1, h2, hg, h3⟩
  · exact absurd e hne
  · intro k hk; cases hk; exact hg
theorem Rd.len {α : Type} {f : α → Value} {w : World} {v : Value} {l : List α} (h : Rd f w v l) : ∃ a cap, v = .slice a l.length cap ∧ l.length ≤ maxLen := by
  rcases h with ⟨a, rfl, rfl⟩ | ⟨g, o, cap, rfl, h1, h2, hg, h3⟩
  · exact ⟨_, _, rfl, Nat.zero_le _⟩
  · exact ⟨_, _, rfl, Nat.le_trans h1 h2⟩

/-- For a loop: the slice's value, and each element where it is read. -/
theorem Rd.elems {α : Type} {f : α → Value} {w : World} {v : Value} {l : List α} (h : Rd f w v l) : ∃ a cap, v = .slice a l.length cap ∧ l.length ≤ cap ∧ cap ≤ maxLen ∧
    ∀ i (h : i < l.length), ∃ g o, a = some ⟨g, o, none⟩ ∧ g < w.heap.size ∧ w.cell? ⟨g, o + i, none⟩ = some (f l[i]) := by
  rcases h with ⟨a, rfl, rfl⟩ | ⟨g, o, cap, rfl, h1, h2, hg, h3⟩
  · exact ⟨_, _, rfl, by simp, by simp, fun i hi => absurd hi (by simp)⟩
  · exact ⟨_, _, rfl, h1, h2, fun i hi => ⟨g, o, rfl, hg, h3 i hi⟩⟩


/-- A slice at the head of a row of its own. -/
def RowF {α : Type} (f : α → Value) (e : TypeId) (w : World) (v : Value) (l : List α) : Prop :=
  (v = .slice none 0 0 ∧ l = []) ∨ ∃ g cap cur, v = .slice (some ⟨g, 0, none⟩) l.length cap ∧ w.heap[g]? = some (.cells cur e (0, 0)) ∧ l.length ≤ cap ∧ cap ≤ cur.size ∧ cap ≤ maxLen ∧
    cur.toList.take l.length = l.map f

theorem RowF.keep {α : Type} {f : α → Value} {e : TypeId} {w w' : World} {v : Value} {l : List α} (h : RowF f e w v l) (hb : ∀ g, v.ownBlock = some g → w'.heap[g]? = w.heap[g]?) : RowF f e w' v l := by
  rcases h with h | ⟨g, cap, cur, rfl, h1, h2⟩
  · exact .inl h
  · exact .inr ⟨g, cap, cur, rfl, by rw [hb g rfl]; exact h1, h2⟩
theorem RowF.cells {α : Type} {f : α → Value} {e : TypeId} {w : World} {g : Nat} {cur : Array Value} {l : List α} (h1 : w.heap[g]? = some (.cells cur e (0, 0))) (h5 : cur.toList.take l.length = l.map f) (i : Nat) (hi : i < l.length) :
    w.cell? ⟨g, i, none⟩ = some (f l[i]) := by
  have e : cur.toList[i]? = (l.map f)[i]? := by rw [← h5]; simp [hi]
  have e' : cur[i]? = some (f l[i]) := by
    have : cur.toList[i]? = cur[i]? := by simp
    rw [← this, e]; simp [hi]
  simp [World.cell?, h1, e']
theorem RowF.rd {α : Type} {f : α → Value} {e : TypeId} {w : World} {v : Value} {l : List α} (h : RowF f e w v l) : Rd f w v l := by
  rcases h with h | ⟨g, cap, cur, rfl, h1, h2, h3, h4, h5⟩
  · exact .inl ⟨_, h⟩
  · exact .inr ⟨g, 0, cap, rfl, h2, h4, lt_of_block h1, fun i hi => by rw [Nat.zero_add]; exact RowF.cells h1 h5 i hi⟩
theorem RowF.lt {α : Type} {f : α → Value} {e : TypeId} {w : World} {v : Value} {l : List α} (h : RowF f e w v l) : ∀ g, v.ownBlock = some g → g < w.heap.size := by
  rcases h with ⟨rfl, _⟩ | ⟨g, cap, cur, rfl, h1, _⟩
  · intro g hg; cases hg
  · intro k hk; cases hk; exact lt_of_block h1
theorem RowF.alloc {α : Type} {f : α → Value} {e : TypeId} {w : World} {v : Value} {l : List α} (h : RowF f e w v l) (o : Obj) : RowF f e (w.alloc o) v l :=
  h.keep fun g hg => heap_alloc_old _ _ (h.lt g hg)
theorem RowF.nil {α : Type} {f : α → Value} {e : TypeId} {w : World} : RowF f e w (.slice none 0 0) [] := .inl ⟨rfl, rfl⟩

section
variable {α : Type} {f : α → Value} {P : Program} {w : World}

theorem rd_news {g o : Nat} {ys : List α} (h : ∀ i (h : i < ys.length), w.cell? ⟨g, o + i, none⟩ = some (f ys[i])) :
    ∀ j u, (ys.map f)[j]? = some u → w.cell? ((⟨g, o, none⟩ : Addr).add j) = some u := by
  intro j u hj
  rw [List.getElem?_map] at hj
  cases hy : ys[j]? with
  | none => rw [hy] at hj; simp at hj
  | some y =>
    rw [hy] at hj
    simp at hj
    obtain ⟨hlt, he⟩ := List.getElem?_eq_some_iff.1 hy
    have := h j hlt
    rw [he, hj] at this
    rw [← this]
    cases j with
    | zero => rfl
    | succ j => rfl

theorem run_append_row (hf : ∀ x, (f x).oneCell' = true) (t ty e : TypeId) (i : TypeInfo) (z : Value) (bytes : Nat) (ht : P.underlying t = some (.slice e)) (hi : P.info? e = some i) (hz : i.zero = some z)
    (hsize : i.size = 1) (hby : i.bytes = bytes) (hzs : z.cells.size = 1) {v src : Value} {xs ys : List α} (hrow : RowF f e w v xs) (hsrc : Rd f w src ys)
    (hlen : xs.length + ys.length ≤ maxLen) (hbytes : (xs.length + ys.length) * bytes ≤ 140737488355328) :
    ∃ v' w', (Builtin.append_ #[t, t] ty #[v, src]).run P w = .ok v' w' ∧ RowF f e w' v' (xs ++ ys) ∧ Only (fun k => v.ownBlock = some k) w w' ∧
      (v'.ownBlock = v.ownBlock ∨ ∀ g, v'.ownBlock = some g → w.heap.size ≤ g) ∧ (v' = .slice none 0 0 ↔ v = .slice none 0 0 ∧ ys = []) := by
  have hsmall : xs.length + ys.length ≤ 9223372036854775807 := by simp only [maxLen] at hlen; omega
  -- what has grown
  have grown : ∀ old : Nat, old < xs.length + ys.length → RowF f e (w.drew.alloc (.cells ((xs.map f).toArray ++ (ys.map f).toArray ++ Builtin.zeroCells z.cells (grownCap w (xs.length + ys.length) old e - (xs.length + ys.length))) e))
      (.slice (some ⟨w.heap.size, 0, none⟩) (xs.length + ys.length) (grownCap w (xs.length + ys.length) old e)) (xs ++ ys) ∧
      ∀ S, Only S w (w.drew.alloc (.cells ((xs.map f).toArray ++ (ys.map f).toArray ++ Builtin.zeroCells z.cells (grownCap w (xs.length + ys.length) old e - (xs.length + ys.length))) e)) := by
    intro old _
    refine ⟨.inr ⟨w.heap.size, _, _, by rw [List.length_append], heap_alloc_new w.drew _, by rw [List.length_append]; exact grownCap_ge _ _ _ _, ?_, grownCap_le_maxLen _ _ _ _ hlen, ?_⟩, fun S => ((Only.refl w).drew).alloc _⟩
    · have := grownCap_ge w (xs.length + ys.length) old e
      simp only [Array.size_append, List.size_toArray, List.length_map, size_zeroCells, hzs]
      omega
    · simp only [Array.toList_append, List.append_assoc, List.length_append, List.map_append]
      rw [← List.append_assoc, show xs.length + ys.length = (xs.map f ++ ys.map f).length by simp]
      exact List.take_left
  rcases hsrc with ⟨as, rfl, rfl⟩ | ⟨gs, os, cs, rfl, hs1, hs2, hs3, hs4⟩
  · -- nothing is appended
    refine ⟨v, w, ?_, by simpa using hrow, Only.refl _, .inl rfl, by simp⟩
    rcases hrow with ⟨rfl, rfl⟩ | ⟨g, cap, cur, rfl, h1, h2, h3, h4, h5⟩
    · cases as <;> simp [Builtin.append_, run_underlying ht, sizeOf, typeInfo, hi, Builtin.lenOf, Builtin.firstCells, loadCells, loadCellsFrom]
    · cases as <;> simp [Builtin.append_, run_underlying ht, sizeOf, typeInfo, hi, Builtin.lenOf, Builtin.firstCells, h2, storeCells, loadCells, loadCellsFrom]
  · have hnews := rd_news hs4
    rcases hrow with ⟨rfl, rfl⟩ | ⟨g, cap, cur, rfl, h1, h2, h3, h4, h5⟩
    · by_cases hy : ys = []
      · subst hy
        refine ⟨.slice none 0 0, w, ?_, .inl ⟨rfl, rfl⟩, Only.refl _, .inl rfl, by simp⟩
        simp [Builtin.append_, run_underlying ht, sizeOf, typeInfo, hi, Builtin.lenOf, Builtin.firstCells, loadCells, loadCellsFrom]
      · have hpos : 0 < ys.length := List.length_pos_iff.2 hy
        have hb := hbytes
        simp only [List.length_nil, Nat.zero_add] at hb hsmall
        have hr := run_append_nil (P := P) w t ty e i z ht hi hz ⟨gs, os, none⟩ ys.length cs (ys.map f) (by simp [hsize]) hnews hpos (by omega) (by rw [hby]; omega)
        have hgr := grown 0 (by simpa using hpos)
        simp only [List.length_nil, Nat.zero_add, List.nil_append, List.map_nil, Array.empty_append] at hgr ⊢
        exact ⟨_, _, hr, hgr.1, hgr.2 _, .inr (fun g hg => by cases hg; exact Nat.le_refl _), by simp [hy]⟩
    · by_cases hroom : xs.length + ys.length ≤ cap
      · have hr := run_append_room (P := P) w t ty e i ht hi g xs.length cap cur h1 ⟨gs, os, none⟩ ys.length cs (ys.map f) (by simp [hsize]) hnews (fun u hu => by obtain ⟨y, _, rfl⟩ := List.mem_map.1 hu; exact hf y) hroom (by simp [hsize]; omega)
        rw [hsize, Nat.mul_one] at hr
        refine ⟨_, _, hr, .inr ⟨g, cap, _, by rw [List.length_append], setRow_heap w g cur _ e _ h1, by rw [List.length_append]; exact hroom, ?_, h4, ?_⟩, ?_, .inl rfl, by simp⟩
        · simp only [List.size_toArray, List.length_append, List.length_take, List.length_drop, Array.length_toList, List.length_map]; omega
        · rw [h5, List.length_append, List.map_append, show xs.length + ys.length = (xs.map f ++ ys.map f).length by simp]
          exact List.take_left
        · exact Only.setRow (S := fun k => (Value.slice (some ⟨g, 0, none⟩) xs.length cap).ownBlock = some k) (Only.refl w) (fun _ => rfl) _
      · have holds : ∀ j u, (xs.map f)[j]? = some u → w.cell? ((⟨g, 0, none⟩ : Addr).add j) = some u := rd_news (fun i hi => by rw [Nat.zero_add]; exact RowF.cells h1 h5 i hi)
        have hr := run_append_grow (P := P) w t ty e i z ht hi hz ⟨g, 0, none⟩ xs.length cap (xs.map f) (by simp [hsize]) holds ⟨gs, os, none⟩ ys.length cs (ys.map f) (by simp [hsize]) hnews (by omega) (by omega) (growslice_fits (by omega) (by rw [hby]; exact hbytes))
        have hgr := grown cap (by omega)
        exact ⟨_, _, hr, hgr.1, hgr.2 _, .inr (fun g hg => by cases hg; exact Nat.le_refl _), by simp⟩

theorem wpList_append_row {ops : Array Oper} {rest : List Oper} {o : Oper} {a : Act} {Q : Exit → Act → World → Prop} (hf : ∀ x, (f x).oneCell' = true) (hgd : o.guard = none) (s x : Operand) (t : TypeId)
    (ho : o.op = .call { callee := .builtin .append, args := #[s, x], argTypes := #[t, t] })
    (e : TypeId) (i : TypeInfo) (z : Value) (bytes : Nat) (ht : P.underlying t = some (.slice e)) (hi : P.info? e = some i) (hz : i.zero = some z) (hsize : i.size = 1) (hby : i.bytes = bytes) (hzs : z.cells.size = 1)
    {v src : Value} {xs ys : List α} (hs : a.eval s = v) (hx : a.eval x = src) (hrow : RowF f e w v xs) (hsrc : Rd f w src ys)
    (hlen : xs.length + ys.length ≤ maxLen) (hbytes : (xs.length + ys.length) * bytes ≤ 140737488355328)
    (h : ∀ v' w', RowF f e w' v' (xs ++ ys) → Only (fun k => v.ownBlock = some k) w w' → (v'.ownBlock = v.ownBlock ∨ ∀ g, v'.ownBlock = some g → w.heap.size ≤ g) → (v' = .slice none 0 0 ↔ v = .slice none 0 0 ∧ ys = []) →
      wpList P ops Q rest (a.put o.dst v') w') : wpList P ops Q (o :: rest) a w := by
  obtain ⟨v', w', hr, h2, h3, h4, h5⟩ := run_append_row (P := P) (w := w) hf t o.type e i z bytes ht hi hz hsize hby hzs hrow hsrc hlen hbytes
  refine wpList_plain hgd fun K hK => ?_
  unfold Oper.wp execOp
  simp only [ho, resolve, invoke, builtin, Sem.run_bind, Sem.run_pure, Result.andThen_ok, List.map_toArray, List.map_cons, List.map_nil, hs, hx, hr]
  exact hK _ _ (h v' w' h2 h3 h4 h5)
end
end Go.Proofs.YtihagdadbeoeoaaDoor
