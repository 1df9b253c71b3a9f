/-
  Texts merged by a program of this claim's: Vec, Map.
-/
import Derived.Test.YtjapijndljknnaaGreatDoorM1
import Derived.ArgAppend
import Derived.Laws.IdiomCopy
import Derived.Lib.ConvBytes
import Derived.StringKeys
import Derived.Laws.IdiomRangeMap
import Derived.Sort.EncStr
/-
  Slices whose elements take k cells each, by their cells: read (SrcV), and of one's own (Vec: any place in a block, any mark outside it): append, run once for all.
-/
namespace Go.Proofs.YtjapijndljknnaaGreatDoor
open Go Go.RowKit

theorem addr_add (g o n : Nat) : (⟨g, o, none⟩ : Addr).add n = ⟨g, o + n, none⟩ := by
  unfold Addr.add
  split
  · rename_i h; subst h; rfl
  · rfl

/-- n elements of k cells each, readable: the cells cs. -/
def SrcV (k : Nat) (w : World) (v : Value) (n : Nat) (cs : List Value) : Prop :=
  cs.length = n * k ∧ ((∃ a, v = .slice a 0 0 ∧ n = 0) ∨ ∃ g o cap, v = .slice (some ⟨g, o, none⟩) n cap ∧ n ≤ cap ∧ cap ≤ maxLen ∧ g < w.heap.size ∧ ∀ j (h : j < cs.length), w.cell? ⟨g, o + j, none⟩ = some cs[j])
/-- .. of one's own: all cells up to the capacity may be written. -/
def Vec (k : Nat) (w : World) (v : Value) (n : Nat) (cs : List Value) : Prop :=
  cs.length = n * k ∧ ((v = .slice none 0 0 ∧ n = 0) ∨ ∃ g o cap, v = .slice (some ⟨g, o, none⟩) n cap ∧ n ≤ cap ∧ cap ≤ maxLen ∧ g < w.heap.size ∧
    (∀ j, j < cap * k → (w.cell? ⟨g, o + j, none⟩).isSome = true) ∧ (∀ j, j < cap * k → w.frozen? ⟨g, o + j, none⟩ = false) ∧ ∀ j (h : j < cs.length), w.cell? ⟨g, o + j, none⟩ = some cs[j])

section
variable {k n : Nat} {w w' : World} {v : Value} {cs : List Value}
theorem Vec.src (h : Vec k w v n cs) : SrcV k w v n cs := by
  obtain ⟨h0, ⟨rfl, h⟩ | ⟨g, o, cap, rfl, h1, h2, h3, -, -, h6⟩⟩ := h
  · exact ⟨h0, .inl ⟨_, rfl, h⟩⟩
  · exact ⟨h0, .inr ⟨g, o, cap, rfl, h1, h2, h3, h6⟩⟩
theorem Vec.nil {k : Nat} {w : World} : Vec k w (.slice none 0 0) 0 [] := ⟨by simp, .inl ⟨rfl, rfl⟩⟩
theorem Vec.lt (h : Vec k w v n cs) : ∀ g, v.ownBlock = some g → g < w.heap.size := by
  obtain ⟨-, ⟨rfl, -⟩ | ⟨g, o, cap, rfl, -, -, h3, -⟩⟩ := h
  · intro g hg; cases hg
  · intro g' hg; cases hg; exact h3
theorem Vec.keep (h : Vec k w v n cs) (hs : w.heap.size ≤ w'.heap.size) (hb : ∀ g, v.ownBlock = some g → w'.heap[g]? = w.heap[g]?) : Vec k w' v n cs := by
  obtain ⟨h0, h | ⟨g, o, cap, rfl, h1, h2, h3, h4, h5, h6⟩⟩ := h
  · exact ⟨h0, .inl h⟩
  · have hg := hb g rfl
    refine ⟨h0, .inr ⟨g, o, cap, rfl, h1, h2, Nat.lt_of_lt_of_le h3 hs, fun j hj => ?_, fun j hj => ?_, fun j hj => ?_⟩⟩
    · rw [World.cell?_of_block (w := w) hg]; exact h4 j hj
    · rw [World.frozen?_of_block (w := w) hg]; exact h5 j hj
    · rw [World.cell?_of_block (w := w) hg]; exact h6 j hj
theorem Vec.nw (h : Vec k w v n cs) (hw : Nw w w') : Vec k w' v n cs := h.keep hw.size fun g hg => hw.block g (h.lt g hg) (fun hf => hf)
theorem Vec.len (h : Vec k w v n cs) : ∃ a cap, v = .slice a n cap ∧ n ≤ cap ∧ cap ≤ maxLen := by
  obtain ⟨-, ⟨rfl, rfl⟩ | ⟨g, o, cap, rfl, h1, h2, -⟩⟩ := h
  · exact ⟨_, _, rfl, by simp, by simp⟩
  · exact ⟨_, _, rfl, h1, h2⟩
theorem SrcV.nw (h : SrcV k w v n cs) (hw : Nw w w') : SrcV k w' v n cs := by
  obtain ⟨h0, h | ⟨g, o, cap, rfl, h1, h2, h3, h6⟩⟩ := h
  · exact ⟨h0, .inl h⟩
  · exact ⟨h0, .inr ⟨g, o, cap, rfl, h1, h2, Nat.lt_of_lt_of_le h3 hw.size, fun j hj => hw.cell (h6 j hj)⟩⟩
theorem SrcV.len (h : SrcV k w v n cs) : ∃ a cap, v = .slice a n cap ∧ n ≤ cap ∧ cap ≤ maxLen := by
  obtain ⟨-, ⟨a, rfl, rfl⟩ | ⟨g, o, cap, rfl, h1, h2, -⟩⟩ := h
  · exact ⟨_, _, rfl, by simp, by simp⟩
  · exact ⟨_, _, rfl, h1, h2⟩
theorem Vec.rd {α : Type} {f : α → Value} {l : List α} (h : Vec 1 w v l.length (l.map f)) : Rd f w v l := by
  obtain ⟨-, ⟨rfl, hn⟩ | ⟨g, o, cap, rfl, h1, h2, h3, h4, -, h6⟩⟩ := h
  · exact .inl ⟨_, rfl, List.eq_nil_of_length_eq_zero hn⟩
  · refine .inr ⟨g, o, cap, rfl, h1, h2, h3, fun i hi => ?_⟩
    have := h6 i (by simpa using hi)
    simpa using this
theorem SrcV.of_rd {α : Type} {f : α → Value} {l : List α} (h : Rd f w v l) : SrcV 1 w v l.length (l.map f) := by
  rcases h with ⟨a, rfl, rfl⟩ | ⟨g, o, cap, rfl, h1, h2, hg, h3⟩
  · exact ⟨by simp, .inl ⟨_, rfl, rfl⟩⟩
  · refine ⟨by simp, .inr ⟨g, o, cap, rfl, h1, h2, hg, fun j hj => ?_⟩⟩
    have := h3 j (by simpa using hj)
    simpa using this
theorem Vec.of_owns {base e : Nat} (h : w.ownsRow base e k v n cs) : Vec k w v n cs ∧ ∀ g, v.ownBlock = some g → base ≤ g := by
  obtain ⟨h0, ⟨rfl, hn⟩ | ⟨g, cap, cur, rfl, hb, h1, h2, h3, h4, h5⟩⟩ := h
  · exact ⟨⟨h0, .inl ⟨rfl, hn⟩⟩, fun g hg => by cases hg⟩
  · refine ⟨⟨h0, .inr ⟨g, 0, cap, rfl, h2, h3, lt_of_block h1, fun j hj => ?_, fun j hj => ?_, fun j hj => ?_⟩⟩, fun g' hg => by cases hg; exact hb⟩
    · have : j < cur.size := by omega
      simp [World.cell?, h1, this]
    · simp [World.frozen?, h1]
    · have e : cur.toList[j]? = cs[j]? := by rw [← h5, List.getElem?_take]; rw [if_pos (by omega)]
      have e2 : cur[j]? = some cs[j] := by
        have : cur.toList[j]? = cur[j]? := by simp
        rw [← this, e]; simp
      simp [World.cell?, h1, e2]
theorem Only.setCells {S : Nat → Prop} {b : Nat} : ∀ (vs : List Value) (o : Nat) (w : World), (b < w.heap.size → S b) → Only S w (w.setCells b o vs)
  | [], _, w, _ => Only.refl w
  | u :: r, o, w, hb => by
    rw [World.setCells]
    exact ((Only.refl w).setCell (p := ⟨b, o, none⟩) hb u).trans (Only.setCells r (o + 1) _ (fun h => hb (by simpa using h)))

theorem run_append_vec {P : Program} (t ty e : TypeId) (i : TypeInfo) (z : Value) (size bytes : Nat) (ht : P.underlying t = some (.slice e)) (hi : P.info? e = some i) (hz : i.zero = some z)
    (hsize : i.size = size) (hby : i.bytes = bytes) (hzs : z.cells.size = size) (hsz : 0 < size) {x : Value} {m : Nat} {news : List Value} (hv : Vec size w v n cs) (hx : SrcV size w x m news) (h1 : ∀ u ∈ news, u.oneCell' = true)
    (h63 : n + m ≤ maxLen) (hbytes : (n + m) * bytes ≤ 140737488355328) :
    ∃ v' w', (Builtin.append_ #[t, t] ty #[v, x]).run P w = .ok v' w' ∧ Vec size w' v' (n + m) (cs ++ news) ∧ Only (fun b => v.ownBlock = some b) w w' ∧
      (v'.ownBlock = v.ownBlock ∨ ∀ g, v'.ownBlock = some g → w.heap.size ≤ g) := by
  have hv0 := hv
  obtain ⟨hxl, ⟨ax, rfl, rfl⟩ | ⟨gx, ox, cx, rfl, hx1, hx2, hx3, hx4⟩⟩ := hx
  · obtain rfl : news = [] := List.eq_nil_of_length_eq_zero (by simpa using hxl)
    refine ⟨v, w, ?_, by simpa using hv, Only.refl _, .inl rfl⟩
    obtain ⟨-, ⟨rfl, rfl⟩ | ⟨g, o, cap, rfl, h2, -⟩⟩ := hv
    · cases ax <;> simp [Builtin.append_, run_underlying ht, sizeOf, typeInfo, hi, Builtin.lenOf, Builtin.firstCells, loadCells, loadCellsFrom]
    · cases ax <;> simp [Builtin.append_, run_underlying ht, sizeOf, typeInfo, hi, Builtin.lenOf, Builtin.firstCells, h2, storeCells, loadCells, loadCellsFrom]
  · have hnews : ∀ j u, news[j]? = some u → w.cell? ((⟨gx, ox, none⟩ : Addr).add j) = some u := by
      intro j u hj
      obtain ⟨hlt, he⟩ := List.getElem?_eq_some_iff.1 hj
      rw [addr_add, hx4 j hlt, he]
    obtain ⟨hvl, ⟨rfl, rfl⟩ | ⟨g, o, cap, rfl, g1, g2, g3, g4, g5, g6⟩⟩ := hv
    · obtain rfl : cs = [] := List.eq_nil_of_length_eq_zero (by simpa using hvl)
      obtain ⟨v', w', hr, ho, hg, -⟩ := run_append_own (P := P) w w.heap.size t ty e i z size bytes ht hi hz hsize hby hzs hsz _ 0 [] (World.ownsRow_nil w w.heap.size e size) ⟨gx, ox, none⟩ m cx news hxl hnews h1 (by simpa using h63) (by simpa using hbytes) (Nat.le_refl _)
      obtain ⟨hV, hf⟩ := Vec.of_owns ho
      exact ⟨v', w', hr, hV, (Only.refl w).grown hg (fun k hk _ => hk), .inr hf⟩
    · have holds : ∀ j u, cs[j]? = some u → w.cell? ((⟨g, o, none⟩ : Addr).add j) = some u := by
        intro j u hj
        obtain ⟨hlt, he⟩ := List.getElem?_eq_some_iff.1 hj
        rw [addr_add, g6 j hlt, he]
      by_cases hroom : n + m ≤ cap
      · have hfit : (n + m) * size ≤ cap * size := Nat.mul_le_mul_right _ hroom
        rw [Nat.add_mul] at hfit
        have c1 : ∀ j, j < news.length → (w.cell? ⟨g, o + n * size + j, none⟩).isSome = true := fun j hj => by
          rw [Nat.add_assoc]; exact g4 _ (by omega)
        have c2 : ∀ j, j < news.length → w.frozen? ⟨g, o + n * size + j, none⟩ = false := fun j hj => by
          rw [Nat.add_assoc]; exact g5 _ (by omega)
        have hr := run_append_room_cells (P := P) (w := w) t ty e i ht hi g o n cap ⟨gx, ox, none⟩ m cx news (by rw [hsize]; exact hxl) hnews h1 hroom (by rw [hsize]; exact c1) (by rw [hsize]; exact c2)
        rw [hsize] at hr
        have hO : Only (fun b => (Value.slice (some ⟨g, o, none⟩) n cap).ownBlock = some b) w (w.setCells g (o + n * size) news) := Only.setCells news _ w (fun _ => rfl)
        refine ⟨_, _, hr, ⟨by rw [List.length_append, hvl, hxl, Nat.add_mul], .inr ⟨g, o, cap, rfl, hroom, g2, Nat.lt_of_lt_of_le g3 hO.size, fun j hj => ?_, fun j hj => ?_, fun j hj => ?_⟩⟩, hO, .inl rfl⟩
        · by_cases hin : n * size ≤ j ∧ j < n * size + news.length
          · have := World.cell?_setCells_in g news (o + n * size) w c1 (j - n * size) (by omega)
            rw [show o + n * size + (j - n * size) = o + j by omega] at this
            rw [this]; rfl
          · rw [World.cell?_setCells_out g news (o + n * size) w ⟨g, o + j, none⟩ (fun _ _ => by show o + j < o + n * size ∨ o + n * size + news.length ≤ o + j; omega)]
            exact g4 j hj
        · rw [World.frozen?_setCells]; exact g5 j hj
        · by_cases hin : j < cs.length
          · rw [World.cell?_setCells_out g news (o + n * size) w ⟨g, o + j, none⟩ (fun _ _ => by show o + j < o + n * size ∨ o + n * size + news.length ≤ o + j; omega), g6 j hin, List.getElem_append_left hin]
          · have hj' : j < cs.length + news.length := by simpa using hj
            have := World.cell?_setCells_in g news (o + n * size) w c1 (j - n * size) (by omega)
            rw [show o + n * size + (j - n * size) = o + j by omega] at this
            rw [this, List.getElem_append_right (by omega)]
            congr 2
            omega
      · obtain ⟨v', w', hr, ho, hg⟩ := run_append_arg_grows (P := P) (w := w) t ty e i z size bytes ht hi hz hsize hby hzs hsz ⟨g, o, none⟩ n cap cs hvl holds ⟨gx, ox, none⟩ m cx news hxl hnews (by omega) h63 hbytes
        obtain ⟨hV, hf⟩ := Vec.of_owns ho
        exact ⟨v', w', hr, hV, (Only.refl w).grown hg (fun k hk _ => by cases hk), .inr hf⟩

theorem wpList_append_vec {P : Program} {ops : Array Oper} {rest : List Oper} {o : Oper} {a : Act} {Q : Exit → Act → World → Prop} (hgd : o.guard = none) (s x : Operand) (t : TypeId)
    (ho : o.op = .call { callee := .builtin .append, args := #[s, x], argTypes := #[t, t] })
    (e : TypeId) (i : TypeInfo) (z : Value) (size bytes : Nat) (ht : P.underlying t = some (.slice e)) (hi : P.info? e = some i) (hz : i.zero = some z) (hsize : i.size = size) (hby : i.bytes = bytes) (hzs : z.cells.size = size) (hsz : 0 < size)
    {src : Value} {m : Nat} {news : List Value} (hs : a.eval s = v) (hx : a.eval x = src) (hv : Vec size w v n cs) (hsrc : SrcV size w src m news) (h1 : ∀ u ∈ news, u.oneCell' = true)
    (hlen : n + m ≤ maxLen) (hbytes : (n + m) * bytes ≤ 140737488355328)
    (h : ∀ v' w', Vec size w' v' (n + m) (cs ++ news) → Only (fun k => v.ownBlock = some k) w w' → (v'.ownBlock = v.ownBlock ∨ ∀ g, v'.ownBlock = some g → w.heap.size ≤ g) →
      wpList P ops Q rest (a.put o.dst v') w') : wpList P ops Q (o :: rest) a w := by
  obtain ⟨v', w', hr, h2, h3, h4⟩ := run_append_vec (P := P) (w := w) t o.type e i z size bytes ht hi hz hsize hby hzs hsz hv hsrc h1 hlen hbytes
  refine wpList_plain hgd fun K hK => ?_
  unfold Oper.wp execOp
  simp only [ho, resolve, invoke, builtin, Sem.run_bind, Sem.run_pure, Result.andThen_ok, List.map_toArray, List.map_cons, List.map_nil, hs, hx, hr]
  exact hK _ _ (h v' w' h2 h3 h4)

/-- A row that a literal lays, as a source. -/
theorem src_lit (w : World) (t : TypeId) (fz : Nat × Nat) (k n c : Nat) (cs : List Value) (hk : cs.length = n * k) (hn : n ≤ c) (hc : c ≤ maxLen) :
    SrcV k (w.alloc (.cells cs.toArray t fz)) (.slice (some ⟨w.heap.size, 0, none⟩) n c) n cs := by
  refine ⟨hk, .inr ⟨w.heap.size, 0, c, rfl, hn, hc, by simp, fun j hj => ?_⟩⟩
  have : (w.alloc (.cells cs.toArray t fz)).heap[w.heap.size]? = some (.cells cs.toArray t fz) := heap_alloc_new w _
  unfold World.cell?
  rw [show (⟨w.heap.size, 0 + j, none⟩ : Addr).block = w.heap.size from rfl, this]
  simp [hj]

/-- The bytes of a string, copied. -/
theorem Vec.of_conv (w : World) (e : TypeId) (s : List UInt8) (hs : s.length ≤ maxLen) : Vec 1 (Lib.bytesWorld w e ⟨s.toArray⟩) (.slice (some ⟨w.heap.size, 0, none⟩) s.length (grownCap w s.length 0 e)) s.length (s.map fun c => Value.int .u8 c.toNat) ∧ Nw w (Lib.bytesWorld w e ⟨s.toArray⟩) := by
  have hge := grownCap_ge w s.length 0 e
  have hcm := grownCap_le_maxLen w s.length 0 e hs
  have hb := Lib.bytesWorld_at_new w e ⟨s.toArray⟩
  have hcs : (Lib.bytesCells w e ⟨s.toArray⟩).size = grownCap w s.length 0 e := by
    simp only [Lib.bytesCells, Array.size_append, Array.size_map, List.size_toArray, Array.size_replicate]
    show s.length + (grownCap w s.length 0 e - s.length) = _
    omega
  refine ⟨⟨by simp, .inr ⟨w.heap.size, 0, _, rfl, hge, hcm, by rw [Lib.bytesWorld_size]; omega, fun j hj => ?_, fun j hj => ?_, fun j hj => ?_⟩⟩, ?_⟩
  · have : j < (Lib.bytesCells w e ⟨s.toArray⟩).size := by rw [hcs]; simpa using hj
    simp [World.cell?, hb, this]
  · have : j < (Lib.bytesCells w e ⟨s.toArray⟩).size := by rw [hcs]; simpa using hj
    simp only [World.frozen?, hb, Nat.zero_add]
    simp; omega
  · have hj' : j < s.length := by simpa using hj
    have := Lib.bytesWorld_cell w e ⟨s.toArray⟩ j (by simpa [ByteArray.size] using hj')
    rw [Nat.zero_add, this]
    simp [List.getD, hj']
  · refine ⟨rfl, rfl, rfl, by rw [Lib.bytesWorld_size]; omega, fun k hk _ => Lib.bytesWorld_at_old w e ⟨s.toArray⟩ k hk⟩
end
end Go.Proofs.YtjapijndljknnaaGreatDoor

/-
  Program-independent: maps keyed by strings, as lists of entries: look-up, store, delete, len, and the walk over all entries, each run once in the model.
-/
namespace Go.Proofs.YtjapijndljknnaaGreatDoor
open Go Go.RowKit

abbrev Str := List UInt8
/-- One entry of a map keyed by strings. -/
structure En where
  key : Str
  val : Value
  born : Nat
def En.entry (e : En) : MapEntry := { key := .string ⟨e.key.toArray⟩, val := e.val, born := e.born }
def ents (L : List En) : Array MapEntry := (L.map En.entry).toArray

theorem str_inj {a b : Str} (h : (⟨a.toArray⟩ : ByteArray) = ⟨b.toArray⟩) : a = b := by
  have := congrArg (fun x => x.data.toList) h; simpa using this

theorem sameNow_str (a b : Str) : Instr.sameNow .string (.string ⟨a.toArray⟩) (.string ⟨b.toArray⟩) = some (decide (a = b)) := by
  simp only [Instr.sameNow]
  congr 1
  by_cases h : a = b
  · subst h; simp only [decide_true]; exact (MapKept.bytes_beq _ _).2 rfl
  · simp only [h, decide_false]
    rw [Bool.eq_false_iff]
    exact fun e => h (str_inj ((MapKept.bytes_beq _ _).1 e))

theorem findNow_miss (k : Str) : ∀ (L : List En) (i : Nat), k ∉ L.map En.key → Instr.findNow .string (.string ⟨k.toArray⟩) (L.map En.entry) i = some none
  | [], _, _ => rfl
  | e :: L, i, h => by
    simp only [List.map_cons, List.mem_cons, not_or] at h
    simp only [List.map_cons, Instr.findNow, En.entry, sameNow_str, decide_eq_false h.1]
    exact findNow_miss k L (i + 1) h.2

theorem findNow_hit (k : Str) (e : En) (he : e.key = k) : ∀ (A B : List En) (i : Nat), k ∉ A.map En.key →
    Instr.findNow .string (.string ⟨k.toArray⟩) ((A ++ e :: B).map En.entry) i = some (some (i + A.length, e.val))
  | [], B, i, _ => by subst he; simp [Instr.findNow, En.entry, sameNow_str]
  | a :: A, B, i, h => by
    simp only [List.map_cons, List.mem_cons, not_or] at h
    simp only [List.cons_append, List.map_cons, Instr.findNow, En.entry, sameNow_str, decide_eq_false h.1]
    rw [findNow_hit k e he A B (i + 1) h.2]
    simp; omega

/-- Every key is in the list, or splits it. -/
theorem split_key (k : Str) : ∀ (L : List En), k ∉ L.map En.key ∨ ∃ A e B, L = A ++ e :: B ∧ e.key = k ∧ k ∉ A.map En.key
  | [] => .inl (by simp)
  | a :: L => by
    by_cases h : a.key = k
    · exact .inr ⟨[], a, L, rfl, h, by simp⟩
    · rcases split_key k L with h1 | ⟨A, e, B, rfl, h2, h3⟩
      · exact .inl (by simp [h1, Ne.symm h])
      · exact .inr ⟨a :: A, e, B, rfl, h2, by simp [h3, Ne.symm h]⟩

def World.setBlk (w : World) (r : Nat) (o : Obj) : World := { w with heap := w.heap.setIfInBounds r o }
theorem setBlk_same {w : World} {r : Nat} {o o' : Obj} (h : w.heap[r]? = some o) : (World.setBlk w r o').heap[r]? = some o' := (MapKept.heap_set h).1
theorem setBlk_other {w : World} {r k : Nat} {o' : Obj} (h : k ≠ r) : (World.setBlk w r o').heap[k]? = w.heap[k]? := by
  simp [World.setBlk, Ne.symm h]
@[simp] theorem setBlk_size {w : World} {r : Nat} {o : Obj} : (World.setBlk w r o).heap.size = w.heap.size := by simp [World.setBlk]
theorem Only.setBlk {S : Nat → Prop} {w w' : World} (h : Only S w w') {r : Nat} (hp : r < w.heap.size → S r) (o : Obj) : Only S w (World.setBlk w' r o) :=
  h.trans' (T := fun k => k = r) ⟨rfl, rfl, rfl, by simp, fun k _ hn => setBlk_other hn⟩ (fun k hk e => by subst e; exact hp hk)

section
variable {P : Program} {w : World} {t kt et : TypeId} {m clock : Nat} {L : List En} {k : Str}

theorem run_checkStr (hk : P.underlying kt = some .string) (b : Bool) (k : Str) (w : World) : (Instr.checkKey b 10000 kt (.string ⟨k.toArray⟩)).run P w = .ok () w :=
  MapKept.run_checkKey (k := .string ⟨k.toArray⟩) hk (by simp [MapKept.IsKey]) b 9999

theorem run_look_miss (ht : P.underlying t = some (.map kt et)) (hk : P.underlying kt = some .string) {z : Value} (hz : (zeroValue et).run P w = .ok z w)
    (hb : w.heap[m]? = some (.map (ents L) clock)) (hn : k ∉ L.map En.key) :
    (Instr.lookup t (.map (some m)) (.string ⟨k.toArray⟩) false).run P w = .ok z w := by
  have h1 := MapKept.run_findKey (w := w) hk (findNow_miss k L 0 hn)
  have h2 := fun b => run_checkStr (w := w) hk b k
  simp [Instr.lookup, run_underlying ht, MapKept.run_getObj_map hb, h2, Result.andThen, ents, h1, hz]

theorem run_look_hit {A B : List En} {e : En} (ht : P.underlying t = some (.map kt et)) (hk : P.underlying kt = some .string)
    (hb : w.heap[m]? = some (.map (ents (A ++ e :: B)) clock)) (he : e.key = k) (hn : k ∉ A.map En.key) :
    (Instr.lookup t (.map (some m)) (.string ⟨k.toArray⟩) false).run P w = .ok e.val w := by
  have h1 := MapKept.run_findKey (w := w) hk (findNow_hit k e he A B 0 hn)
  have h2 := fun b => run_checkStr (w := w) hk b k
  unfold ents at hb
  generalize (A ++ e :: B).map En.entry = l at *
  simp [Instr.lookup, run_underlying ht, MapKept.run_getObj_map hb, h2, Result.andThen, h1]

theorem run_store_miss (ht : P.underlying t = some (.map kt et)) (hk : P.underlying kt = some .string) (hb : w.heap[m]? = some (.map (ents L) clock)) (hn : k ∉ L.map En.key) (v : Value) :
    (Instr.mapUpdate t (.map (some m)) (.string ⟨k.toArray⟩) v).run P w = .ok () (World.setBlk w m (.map (ents (L ++ [⟨k, v, clock⟩])) (clock + 1))) := by
  have h1 := MapKept.run_findKey (w := w) hk (findNow_miss k L 0 hn)
  have h2 := run_checkStr (w := w) hk false k
  simp [Instr.mapUpdate, run_underlying ht, MapKept.run_getObj_map hb, h2, Result.andThen, ents, h1, MapKept.run_setObj_map _ hb, World.setBlk, En.entry]

theorem run_store_hit {A B : List En} {e : En} (ht : P.underlying t = some (.map kt et)) (hk : P.underlying kt = some .string) (hb : w.heap[m]? = some (.map (ents (A ++ e :: B)) clock)) (he : e.key = k) (hn : k ∉ A.map En.key) (v : Value) :
    (Instr.mapUpdate t (.map (some m)) (.string ⟨k.toArray⟩) v).run P w = .ok () (World.setBlk w m (.map (ents (A ++ ⟨k, v, e.born⟩ :: B)) clock)) := by
  have h1 := MapKept.run_findKey (w := w) hk (findNow_hit k e he A B 0 hn)
  have h2 := run_checkStr (w := w) hk false k
  have h3 := MapKept.run_keyThatStays (P := P) (w := w) (d := .string) (k := .string ⟨k.toArray⟩) trivial
  subst he
  have hget : ((A ++ e :: B).map En.entry).toArray[A.length]? = some e.entry := by simp
  simp only [Instr.mapUpdate, Sem.run_bind, run_underlying ht, MapKept.run_getObj_map hb, h2, Result.andThen, ents, h1, Nat.zero_add, hget, Option.map_some, Option.getD_some]
  simp only [En.entry] at h3 ⊢
  simp only [h3, MapKept.run_setObj_map _ hb, World.setBlk]
  congr 3
  have hm : ∀ (X Y : List MapEntry) (f : MapEntry → MapEntry) (y : MapEntry), (X ++ y :: Y).toArray.modify X.length f = (X ++ f y :: Y).toArray := fun X Y f y => by
    apply Array.ext'
    rw [Array.toList_modify]
    simp [List.modify_eq_take_drop]
  have := hm (A.map En.entry) (B.map En.entry) (fun x => { key := .string ⟨e.key.toArray⟩, val := v, born := x.born }) e.entry
  rw [List.length_map] at this
  simpa [List.map_append, En.entry] using this

theorem run_drop_hit {A B : List En} {e : En} (ty : TypeId) (ht : P.underlying t = some (.map kt et)) (hk : P.underlying kt = some .string) (hb : w.heap[m]? = some (.map (ents (A ++ e :: B)) clock)) (he : e.key = k) (hn : k ∉ A.map En.key) :
    (Builtin.delete_ #[t, kt] ty #[.map (some m), .string ⟨k.toArray⟩]).run P w = .ok (.tuple #[]) (World.setBlk w m (.map (ents (A ++ B)) clock)) := by
  have h1 := MapKept.run_findKey (w := w) hk (findNow_hit k e he A B 0 hn)
  have h2 := fun b => run_checkStr (w := w) hk b k
  simp only [Builtin.delete_, List.getElem?_toArray, List.getElem?_cons_zero, List.getElem?_cons_succ, Sem.run_bind, run_underlying ht, MapKept.run_getObj_map hb, h2, Result.andThen, ents, h1, MapKept.run_setObj_map _ hb, World.setBlk]
  simp [Array.eraseIdxIfInBounds, List.eraseIdx_append_of_length_le]

theorem run_len_map (ty : TypeId) (ht : P.underlying t = some (.map kt et)) (hb : w.heap[m]? = some (.map (ents L) clock)) :
    (Builtin.len_ #[t] ty #[.map (some m)]).run P w = .ok (.int .i64 L.length) w := by
  simp [Builtin.len_, run_underlying ht, MapKept.run_getObj_map hb, ents, goInt]

/-- The walk over a map begins. -/
theorem run_range_en (ht : P.underlying t = some (.map kt et)) (hb : w.heap[m]? = some (.map (ents L) clock)) :
    (Instr.range t (.map (some m))).run P w = .ok (.pointer (some ⟨w.heap.size, 0, none⟩)) (w.alloc (.mapIter (some m) clock #[] clock)) :=
  run_range_map w t kt et m _ clock ht hb

/-- What is left of the walk. -/
def leftEn (L : List En) (seen : Array Nat) : List En := L.filter fun e => !seen.contains e.born

/-- One entry more of a map that nobody has written since the walk began, whichever; or none is left. -/
theorem run_next_en (ty : TypeId) {r since last : Nat} {seen : Array Nat} (hr : w.heap[r]? = some (.mapIter (some m) since seen last))
    (hb : w.heap[m]? = some (.map (ents L) clock)) (hold : ∀ e ∈ L, e.born < since) (hsc : since ≤ last) :
    (leftEn L seen = [] ∧ (Instr.next (.pointer (some ⟨r, 0, none⟩)) false ty).run P w = .ok (.tuple #[.bool false]) w) ∨
    ∃ e ∈ leftEn L seen, ∃ w1 : World, (w1 = w ∨ w1 = w.drew) ∧ (Instr.next (.pointer (some ⟨r, 0, none⟩)) false ty).run P w =
      .ok (.tuple #[.bool true, .string ⟨e.key.toArray⟩, e.val]) (World.setBlk w1 r (.mapIter (some m) since (seen.push e.born) clock)) := by
  have hold' : ∀ x ∈ (ents L).toList, x.born < since := fun x hx => by
    simp only [ents, List.mem_map] at hx
    obtain ⟨e, he, rfl⟩ := hx
    exact hold e he
  simp only [Instr.next, getObj, Sem.run_bind, Sem.run, hr, hb, Result.andThen, next_test_false seen (ents L) since last hold' hsc, Bool.false_eq_true, if_false]
  have hl : Array.filter (fun e => !seen.contains e.born) (ents L) = ((leftEn L seen).map En.entry).toArray := by
    apply Array.ext'
    simp only [ents, leftEn, Array.toList_filter, List.filter_map]
    rfl
  have hsub : ∀ e ∈ leftEn L seen, e.born < since := fun e he => hold e (List.mem_filter.1 he).1
  rw [hl]
  generalize leftEn L seen = M at hsub ⊢
  have e1 : ((M.map En.entry).toArray).filter (fun x => decide (x.born < since)) = (M.map En.entry).toArray := Array.filter_eq_self.2 (fun x hx => by
    simp only [List.mem_toArray, List.mem_map] at hx
    obtain ⟨e, he, rfl⟩ := hx
    exact decide_eq_true (hsub e he))
  have e2 : ((M.map En.entry).toArray).filter (fun x => decide (x.born ≥ since)) = #[] := by
    rw [Array.filter_eq_empty_iff]
    intro x hx
    simp only [List.mem_toArray, List.mem_map] at hx
    obtain ⟨e, he, rfl⟩ := hx
    have := hsub e he
    simp [En.entry]; omega
  simp only [e1, e2, Array.append_empty]
  by_cases h0 : M = []
  · subst h0
    exact .inl ⟨rfl, by simp [choose, Sem.run, Question.forced]⟩
  · right
    have hp : 0 < M.length := List.length_pos_iff.2 h0
    have hne : ((M.map En.entry).toArray).isEmpty = false := by simp [Array.isEmpty]; omega
    simp only [hne, Bool.false_eq_true, if_false, Array.empty_append, Array.size_map, List.size_toArray, List.length_map]
    have hch : ∃ (j : Nat) (w1 : World), j < M.length ∧ (w1 = w ∨ w1 = w.drew) ∧ (choose (Question.mapNext M.length)).run P w = .ok j w1 := by
      by_cases hf : M.length ≤ 1
      · exact ⟨0, w, hp, .inl rfl, by simp [choose, Sem.run, Question.forced, hf]⟩
      · exact ⟨_, w.drew, Nat.mod_lt _ hp, .inr rfl, by
          simp only [choose, Sem.run, Question.forced, decide_eq_true_eq, hf, if_false, Question.cut]
          rfl⟩
    obtain ⟨j, w1, hj, hw1, hrun⟩ := hch
    have hr1 : w1.heap[r]? = some (.mapIter (some m) since seen last) := by rcases hw1 with rfl | rfl <;> exact hr
    refine ⟨M[j], by simp, w1, hw1, ?_⟩
    simp only [hrun, List.map_toArray, List.getElem?_toArray, List.getElem?_map, List.getElem?_eq_getElem hj, Option.map_some, Sem.run_bind, setObj, Sem.run, hr1, Result.andThen]
    rfl
end
end Go.Proofs.YtjapijndljknnaaGreatDoor
