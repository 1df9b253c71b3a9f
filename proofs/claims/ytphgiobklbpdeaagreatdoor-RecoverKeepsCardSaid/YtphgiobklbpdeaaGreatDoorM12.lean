/-
  Texts merged by a program of this claim's: Vec, BytesA.
-/
import Derived.Test.YtphgiobklbpdeaaGreatDoorM2
import Derived.ArgAppend
import Derived.Laws.IdiomCopy
import Derived.Lib.ConvBytes
import Derived.Test.YtphgiobklbpdeaaGreatDoorM3
import Derived.Test.YtphgiobklbpdeaaGreatDoorM10
import Derived.Lib.AppendZeros
import Derived.Lib.Zigzag
import Derived.Lib.EndianBits
import Derived.Laws.Bits64b
/-
  Slices whose elements take k cells each, by their cells: read (SrcV), and of one's own (Vec: any place in a block, any mark outside it): append, run once for all.
-/
namespace Go.Proofs.YtphgiobklbpdeaaGreatDoor
open Go Go.RowKit

theorem addr_add (g o n : Nat) : (⟨g, o, none⟩ : Addr).add n = ⟨g, o + n, none⟩ := by
  unfold Addr.add
  split
  · rename_i h; subst h; rfl
  · rfl

/-- n elements of k cells each, readable: the cells cs. -/
def SrcV (k : Nat) (w : World) (v : Value) (n : Nat) (cs : List Value) : Prop :=
  cs.length = n * k ∧ ((∃ a, v = .slice a 0 0 ∧ n = 0) ∨ ∃ g o cap, v = .slice (some ⟨g, o, none⟩) n cap ∧ n ≤ cap ∧ cap ≤ maxLen ∧ g < w.heap.size ∧ ∀ j (h : j < cs.length), w.cell? ⟨g, o + j, none⟩ = some cs[j])
/-- .. of one's own: all cells up to the capacity may be written. -/
def Vec (k : Nat) (w : World) (v : Value) (n : Nat) (cs : List Value) : Prop :=
  cs.length = n * k ∧ ((v = .slice none 0 0 ∧ n = 0) ∨ ∃ g o cap, v = .slice (some ⟨g, o, none⟩) n cap ∧ n ≤ cap ∧ cap ≤ maxLen ∧ g < w.heap.size ∧
    (∀ j, j < cap * k → (w.cell? ⟨g, o + j, none⟩).isSome = true) ∧ (∀ j, j < cap * k → w.frozen? ⟨g, o + j, none⟩ = false) ∧ ∀ j (h : j < cs.length), w.cell? ⟨g, o + j, none⟩ = some cs[j])

section
variable {k n : Nat} {w w' : World} {v : Value} {cs : List Value}
theorem Vec.src (h : Vec k w v n cs) : SrcV k w v n cs := by
  obtain ⟨h0, ⟨rfl, h⟩ | ⟨g, o, cap, rfl, h1, h2, h3, -, -, h6⟩⟩ := h
  · exact ⟨h0, .inl ⟨_, rfl, h⟩⟩
  · exact ⟨h0, .inr ⟨g, o, cap, rfl, h1, h2, h3, h6⟩⟩
theorem Vec.nil {k : Nat} {w : World} : Vec k w (.slice none 0 0) 0 [] := ⟨by simp, .inl ⟨rfl, rfl⟩⟩
theorem Vec.lt (h : Vec k w v n cs) : ∀ g, v.ownBlock = some g → g < w.heap.size := by
  obtain ⟨-, ⟨rfl, -⟩ | ⟨g, o, cap, rfl, -, -, h3, -⟩⟩ := h
  · intro g hg; cases hg
  · intro g' hg; cases hg; exact h3
theorem Vec.keep (h : Vec k w v n cs) (hs : w.heap.size ≤ w'.heap.size) (hb : ∀ g, v.ownBlock = some g → w'.heap[g]? = w.heap[g]?) : Vec k w' v n cs := by
  obtain ⟨h0, h | ⟨g, o, cap, rfl, h1, h2, h3, h4, h5, h6⟩⟩ := h
  · exact ⟨h0, .inl h⟩
  · have hg := hb g rfl
    refine ⟨h0, .inr ⟨g, o, cap, rfl, h1, h2, Nat.lt_of_lt_of_le h3 hs, fun j hj => ?_, fun j hj => ?_, fun j hj => ?_⟩⟩
    · rw [World.cell?_of_block (w := w) hg]; exact h4 j hj
    · rw [World.frozen?_of_block (w := w) hg]; exact h5 j hj
    · rw [World.cell?_of_block (w := w) hg]; exact h6 j hj
theorem Vec.nw (h : Vec k w v n cs) (hw : Nw w w') : Vec k w' v n cs := h.keep hw.size fun g hg => hw.block g (h.lt g hg) (fun hf => hf)
theorem Vec.len (h : Vec k w v n cs) : ∃ a cap, v = .slice a n cap ∧ n ≤ cap ∧ cap ≤ maxLen := by
  obtain ⟨-, ⟨rfl, rfl⟩ | ⟨g, o, cap, rfl, h1, h2, -⟩⟩ := h
  · exact ⟨_, _, rfl, by simp, by simp⟩
  · exact ⟨_, _, rfl, h1, h2⟩
theorem SrcV.nw (h : SrcV k w v n cs) (hw : Nw w w') : SrcV k w' v n cs := by
  obtain ⟨h0, h | ⟨g, o, cap, rfl, h1, h2, h3, h6⟩⟩ := h
  · exact ⟨h0, .inl h⟩
  · exact ⟨h0, .inr ⟨g, o, cap, rfl, h1, h2, Nat.lt_of_lt_of_le h3 hw.size, fun j hj => hw.cell (h6 j hj)⟩⟩
theorem SrcV.len (h : SrcV k w v n cs) : ∃ a cap, v = .slice a n cap ∧ n ≤ cap ∧ cap ≤ maxLen := by
  obtain ⟨-, ⟨a, rfl, rfl⟩ | ⟨g, o, cap, rfl, h1, h2, -⟩⟩ := h
  · exact ⟨_, _, rfl, by simp, by simp⟩
  · exact ⟨_, _, rfl, h1, h2⟩
theorem Vec.rd {α : Type} {f : α → Value} {l : List α} (h : Vec 1 w v l.length (l.map f)) : Rd f w v l := by
  obtain ⟨-, ⟨rfl, hn⟩ | ⟨g, o, cap, rfl, h1, h2, h3, h4, -, h6⟩⟩ := h
  · exact .inl ⟨_, rfl, List.eq_nil_of_length_eq_zero hn⟩
  · refine .inr ⟨g, o, cap, rfl, h1, h2, h3, fun i hi => ?_⟩
    have := h6 i (by simpa using hi)
    simpa using this
theorem SrcV.of_rd {α : Type} {f : α → Value} {l : List α} (h : Rd f w v l) : SrcV 1 w v l.length (l.map f) := by
  rcases h with ⟨a, rfl, rfl⟩ | ⟨g, o, cap, rfl, h1, h2, hg, h3⟩
  · exact ⟨by simp, .inl ⟨_, rfl, rfl⟩⟩
  · refine ⟨by simp, .inr ⟨g, o, cap, rfl, h1, h2, hg, fun j hj => ?_⟩⟩
    have := h3 j (by simpa using hj)
    simpa using this
theorem Vec.of_row {α : Type} {f : α → Value} {e : TypeId} {l : List α} (h : RowF f e w v l) : Vec 1 w v l.length (l.map f) := by
  rcases h with ⟨rfl, rfl⟩ | ⟨g, cap, cur, rfl, h1, h2, h3, h4, h5⟩
  · exact ⟨by simp, .inl ⟨rfl, rfl⟩⟩
  · refine ⟨by simp, .inr ⟨g, 0, cap, rfl, h2, h4, lt_of_block h1, fun j hj => ?_, fun j hj => ?_, fun j hj => ?_⟩⟩
    · have : j < cur.size := by omega
      simp [World.cell?, h1, this]
    · simp [World.frozen?, h1]
    · have := RowF.cells h1 h5 j (by simpa using hj)
      simpa using this
theorem Vec.of_owns {base e : Nat} (h : w.ownsRow base e k v n cs) : Vec k w v n cs ∧ ∀ g, v.ownBlock = some g → base ≤ g := by
  obtain ⟨h0, ⟨rfl, hn⟩ | ⟨g, cap, cur, rfl, hb, h1, h2, h3, h4, h5⟩⟩ := h
  · exact ⟨⟨h0, .inl ⟨rfl, hn⟩⟩, fun g hg => by cases hg⟩
  · refine ⟨⟨h0, .inr ⟨g, 0, cap, rfl, h2, h3, lt_of_block h1, fun j hj => ?_, fun j hj => ?_, fun j hj => ?_⟩⟩, fun g' hg => by cases hg; exact hb⟩
    · have : j < cur.size := by omega
      simp [World.cell?, h1, this]
    · simp [World.frozen?, h1]
    · have e : cur.toList[j]? = cs[j]? := by rw [← h5, List.getElem?_take]; rw [if_pos (by omega)]
      have e2 : cur[j]? = some cs[j] := by
        have : cur.toList[j]? = cur[j]? := by simp
        rw [← this, e]; simp
      simp [World.cell?, h1, e2]
theorem Only.setCells {S : Nat → Prop} {b : Nat} : ∀ (vs : List Value) (o : Nat) (w : World), (b < w.heap.size → S b) → Only S w (w.setCells b o vs)
  | [], _, w, _ => Only.refl w
  | u :: r, o, w, hb => by
    rw [World.setCells]
    exact ((Only.refl w).setCell (p := ⟨b, o, none⟩) hb u).trans (Only.setCells r (o + 1) _ (fun h => hb (by simpa using h)))

theorem run_append_vec {P : Program} (t ty e : TypeId) (i : TypeInfo) (z : Value) (size bytes : Nat) (ht : P.underlying t = some (.slice e)) (hi : P.info? e = some i) (hz : i.zero = some z)
    (hsize : i.size = size) (hby : i.bytes = bytes) (hzs : z.cells.size = size) (hsz : 0 < size) {x : Value} {m : Nat} {news : List Value} (hv : Vec size w v n cs) (hx : SrcV size w x m news) (h1 : ∀ u ∈ news, u.oneCell' = true)
    (h63 : n + m ≤ maxLen) (hbytes : (n + m) * bytes ≤ 140737488355328) :
    ∃ v' w', (Builtin.append_ #[t, t] ty #[v, x]).run P w = .ok v' w' ∧ Vec size w' v' (n + m) (cs ++ news) ∧ Only (fun b => v.ownBlock = some b) w w' ∧
      (v'.ownBlock = v.ownBlock ∨ ∀ g, v'.ownBlock = some g → w.heap.size ≤ g) := by
  have hv0 := hv
  obtain ⟨hxl, ⟨ax, rfl, rfl⟩ | ⟨gx, ox, cx, rfl, hx1, hx2, hx3, hx4⟩⟩ := hx
  · obtain rfl : news = [] := List.eq_nil_of_length_eq_zero (by simpa using hxl)
    refine ⟨v, w, ?_, by simpa using hv, Only.refl _, .inl rfl⟩
    obtain ⟨-, ⟨rfl, rfl⟩ | ⟨g, o, cap, rfl, h2, -⟩⟩ := hv
    · cases ax <;> simp [Builtin.append_, run_underlying ht, sizeOf, typeInfo, hi, Builtin.lenOf, Builtin.firstCells, loadCells, loadCellsFrom]
    · cases ax <;> simp [Builtin.append_, run_underlying ht, sizeOf, typeInfo, hi, Builtin.lenOf, Builtin.firstCells, h2, storeCells, loadCells, loadCellsFrom]
  · have hnews : ∀ j u, news[j]? = some u → w.cell? ((⟨gx, ox, none⟩ : Addr).add j) = some u := by
      intro j u hj
      obtain ⟨hlt, he⟩ := List.getElem?_eq_some_iff.1 hj
      rw [addr_add, hx4 j hlt, he]
    obtain ⟨hvl, ⟨rfl, rfl⟩ | ⟨g, o, cap, rfl, g1, g2, g3, g4, g5, g6⟩⟩ := hv
    · obtain rfl : cs = [] := List.eq_nil_of_length_eq_zero (by simpa using hvl)
      obtain ⟨v', w', hr, ho, hg, -⟩ := run_append_own (P := P) w w.heap.size t ty e i z size bytes ht hi hz hsize hby hzs hsz _ 0 [] (World.ownsRow_nil w w.heap.size e size) ⟨gx, ox, none⟩ m cx news hxl hnews h1 (by simpa using h63) (by simpa using hbytes) (Nat.le_refl _)
      obtain ⟨hV, hf⟩ := Vec.of_owns ho
      exact ⟨v', w', hr, hV, (Only.refl w).grown hg (fun k hk _ => hk), .inr hf⟩
    · have holds : ∀ j u, cs[j]? = some u → w.cell? ((⟨g, o, none⟩ : Addr).add j) = some u := by
        intro j u hj
        obtain ⟨hlt, he⟩ := List.getElem?_eq_some_iff.1 hj
        rw [addr_add, g6 j hlt, he]
      by_cases hroom : n + m ≤ cap
      · have hfit : (n + m) * size ≤ cap * size := Nat.mul_le_mul_right _ hroom
        rw [Nat.add_mul] at hfit
        have c1 : ∀ j, j < news.length → (w.cell? ⟨g, o + n * size + j, none⟩).isSome = true := fun j hj => by
          rw [Nat.add_assoc]; exact g4 _ (by omega)
        have c2 : ∀ j, j < news.length → w.frozen? ⟨g, o + n * size + j, none⟩ = false := fun j hj => by
          rw [Nat.add_assoc]; exact g5 _ (by omega)
        have hr := run_append_room_cells (P := P) (w := w) t ty e i ht hi g o n cap ⟨gx, ox, none⟩ m cx news (by rw [hsize]; exact hxl) hnews h1 hroom (by rw [hsize]; exact c1) (by rw [hsize]; exact c2)
        rw [hsize] at hr
        have hO : Only (fun b => (Value.slice (some ⟨g, o, none⟩) n cap).ownBlock = some b) w (w.setCells g (o + n * size) news) := Only.setCells news _ w (fun _ => rfl)
        refine ⟨_, _, hr, ⟨by rw [List.length_append, hvl, hxl, Nat.add_mul], .inr ⟨g, o, cap, rfl, hroom, g2, Nat.lt_of_lt_of_le g3 hO.size, fun j hj => ?_, fun j hj => ?_, fun j hj => ?_⟩⟩, hO, .inl rfl⟩
        · by_cases hin : n * size ≤ j ∧ j < n * size + news.length
          · have := World.cell?_setCells_in g news (o + n * size) w c1 (j - n * size) (by omega)
            rw [show o + n * size + (j - n * size) = o + j by omega] at this
            rw [this]; rfl
          · rw [World.cell?_setCells_out g news (o + n * size) w ⟨g, o + j, none⟩ (fun _ _ => by show o + j < o + n * size ∨ o + n * size + news.length ≤ o + j; omega)]
            exact g4 j hj
        · rw [World.frozen?_setCells]; exact g5 j hj
        · by_cases hin : j < cs.length
          · rw [World.cell?_setCells_out g news (o + n * size) w ⟨g, o + j, none⟩ (fun _ _ => by show o + j < o + n * size ∨ o + n * size + news.length ≤ o + j; omega), g6 j hin, List.getElem_append_left hin]
          · have hj' : j < cs.length + news.length := by simpa using hj
            have := World.cell?_setCells_in g news (o + n * size) w c1 (j - n * size) (by omega)
            rw [show o + n * size + (j - n * size) = o + j by omega] at this
            rw [this, List.getElem_append_right (by omega)]
            congr 2
            omega
      · obtain ⟨v', w', hr, ho, hg⟩ := run_append_arg_grows (P := P) (w := w) t ty e i z size bytes ht hi hz hsize hby hzs hsz ⟨g, o, none⟩ n cap cs hvl holds ⟨gx, ox, none⟩ m cx news hxl hnews (by omega) h63 hbytes
        obtain ⟨hV, hf⟩ := Vec.of_owns ho
        exact ⟨v', w', hr, hV, (Only.refl w).grown hg (fun k hk _ => by cases hk), .inr hf⟩

theorem wpList_append_vec {P : Program} {ops : Array Oper} {rest : List Oper} {o : Oper} {a : Act} {Q : Exit → Act → World → Prop} (hgd : o.guard = none) (s x : Operand) (t : TypeId)
    (ho : o.op = .call { callee := .builtin .append, args := #[s, x], argTypes := #[t, t] })
    (e : TypeId) (i : TypeInfo) (z : Value) (size bytes : Nat) (ht : P.underlying t = some (.slice e)) (hi : P.info? e = some i) (hz : i.zero = some z) (hsize : i.size = size) (hby : i.bytes = bytes) (hzs : z.cells.size = size) (hsz : 0 < size)
    {src : Value} {m : Nat} {news : List Value} (hs : a.eval s = v) (hx : a.eval x = src) (hv : Vec size w v n cs) (hsrc : SrcV size w src m news) (h1 : ∀ u ∈ news, u.oneCell' = true)
    (hlen : n + m ≤ maxLen) (hbytes : (n + m) * bytes ≤ 140737488355328)
    (h : ∀ v' w', Vec size w' v' (n + m) (cs ++ news) → Only (fun k => v.ownBlock = some k) w w' → (v'.ownBlock = v.ownBlock ∨ ∀ g, v'.ownBlock = some g → w.heap.size ≤ g) →
      wpList P ops Q rest (a.put o.dst v') w') : wpList P ops Q (o :: rest) a w := by
  obtain ⟨v', w', hr, h2, h3, h4⟩ := run_append_vec (P := P) (w := w) t o.type e i z size bytes ht hi hz hsize hby hzs hsz hv hsrc h1 hlen hbytes
  refine wpList_plain hgd fun K hK => ?_
  unfold Oper.wp execOp
  simp only [ho, resolve, invoke, builtin, Sem.run_bind, Sem.run_pure, Result.andThen_ok, List.map_toArray, List.map_cons, List.map_nil, hs, hx, hr]
  exact hK _ _ (h v' w' h2 h3 h4)

/-- A row that a literal lays, as a source. -/
theorem src_lit (w : World) (t : TypeId) (fz : Nat × Nat) (k n c : Nat) (cs : List Value) (hk : cs.length = n * k) (hn : n ≤ c) (hc : c ≤ maxLen) :
    SrcV k (w.alloc (.cells cs.toArray t fz)) (.slice (some ⟨w.heap.size, 0, none⟩) n c) n cs := by
  refine ⟨hk, .inr ⟨w.heap.size, 0, c, rfl, hn, hc, by simp, fun j hj => ?_⟩⟩
  have : (w.alloc (.cells cs.toArray t fz)).heap[w.heap.size]? = some (.cells cs.toArray t fz) := heap_alloc_new w _
  unfold World.cell?
  rw [show (⟨w.heap.size, 0 + j, none⟩ : Addr).block = w.heap.size from rfl, this]
  simp [hj]

/-- The bytes of a string, copied. -/
theorem Vec.of_conv (w : World) (e : TypeId) (s : List UInt8) (hs : s.length ≤ maxLen) : Vec 1 (Lib.bytesWorld w e ⟨s.toArray⟩) (.slice (some ⟨w.heap.size, 0, none⟩) s.length (grownCap w s.length 0 e)) s.length (s.map fun c => Value.int .u8 c.toNat) ∧ Nw w (Lib.bytesWorld w e ⟨s.toArray⟩) := by
  have hge := grownCap_ge w s.length 0 e
  have hcm := grownCap_le_maxLen w s.length 0 e hs
  have hb := Lib.bytesWorld_at_new w e ⟨s.toArray⟩
  have hcs : (Lib.bytesCells w e ⟨s.toArray⟩).size = grownCap w s.length 0 e := by
    simp only [Lib.bytesCells, Array.size_append, Array.size_map, List.size_toArray, Array.size_replicate]
    show s.length + (grownCap w s.length 0 e - s.length) = _
    omega
  refine ⟨⟨by simp, .inr ⟨w.heap.size, 0, _, rfl, hge, hcm, by rw [Lib.bytesWorld_size]; omega, fun j hj => ?_, fun j hj => ?_, fun j hj => ?_⟩⟩, ?_⟩
  · have : j < (Lib.bytesCells w e ⟨s.toArray⟩).size := by rw [hcs]; simpa using hj
    simp [World.cell?, hb, this]
  · have : j < (Lib.bytesCells w e ⟨s.toArray⟩).size := by rw [hcs]; simpa using hj
    simp only [World.frozen?, hb, Nat.zero_add]
    simp; omega
  · have hj' : j < s.length := by simpa using hj
    have := Lib.bytesWorld_cell w e ⟨s.toArray⟩ j (by simpa [ByteArray.size] using hj')
    rw [Nat.zero_add, this]
    simp [List.getD, hj']
  · refine ⟨rfl, rfl, rfl, by rw [Lib.bytesWorld_size]; omega, fun k hk _ => Lib.bytesWorld_at_old w e ⟨s.toArray⟩ k hk⟩
end
end Go.Proofs.YtphgiobklbpdeaaGreatDoor

/-
  Package bytes, walked: Uint, Int, and the library's Grow and Concat as they are called there.
-/
namespace Go.Proofs.YtphgiobklbpdeaaGreatDoor
open Go Go.RowKit Go.Sort
set_option maxRecDepth 100000
set_option maxHeartbeats 1600000

theorem u8_cell (c : UInt8) : (u8 c).oneCell' = true := rfl
theorem infoU8 : (Tryz.prog.info? 5).map (fun i => (i.zero, i.size, i.bytes)) = some (some (.int .u8 0), 1, 1) := by kernel_rfl

/-- What a maker of bytes hands back: bytes of its own, made behind w. -/
def NewB (w : World) (l : List UInt8) (e : Ending) (w' : World) : Prop := ∃ v', e = .returned v' ∧ Vec 1 w' v' l.length (l.map u8) ∧ Nw w w' ∧ ∀ g, v'.ownBlock = some g → w.heap.size ≤ g

theorem Grow_ok (w : World) (n : Nat) (hn : n ≤ 140737488355328) :
    Calls Tryz.prog 149 #[.slice none 0 0, .int .i64 n] w (NewB w []) := by
  obtain ⟨i0, hi, hz0, hz1, hz2⟩ := info_parts infoU8
  by_cases h0 : n = 0
  · subst h0
    go_enter Tryz.func149, Tryz.ntmps149
    go_wp2
    go_ret
    exact ⟨_, rfl, Vec.nil, Nw.refl _, fun g hg => by cases hg⟩
  · have hp : 0 < n := by omega
    have hr := Lib.run_append_nil_zeros (P := Tryz.prog) w 23 3 23 5 i0 (.int .u8 0) .i64 .i64 Tryz.underlying23 Tryz.underlying3 hi hz0 n hp (by omega) (by omega) (by rw [hz2]; omega)
    have HR := Lib.hid hr
    clear hr
    have hcap := grownCap_le_maxLen w n 0 5 (by unfold maxLen; omega)
    have hcge := grownCap_ge w n 0 5
    generalize grownCap w n 0 5 = cap at HR hcap hcge
    have HCP := Lib.hid (And.intro hcap hcge)
    clear hcap hcge
    generalize hW : w.drew.alloc (.cells (Builtin.zeroCells (Value.int .u8 0).cells n ++ Builtin.zeroCells (Value.int .u8 0).cells (cap - n)) 5) = w1 at HR
    have HW := Lib.hid hW
    clear hW
    go_enter Tryz.func149, Tryz.ntmps149
    go_wp2_with (at_builtin; refine Lib.wpList_append_run _ rfl _ _ 23 3 rfl _ _ rfl rfl _ _ HR.out ?_)
    go_wp2
    go_ret
    obtain ⟨h1, h2⟩ := HCP.out
    have hN : Nw w w1 := by rw [← HW.out]; exact (Nw.refl w).drew.alloc _
    have hb : w1.heap[w.heap.size]? = some (.cells (Builtin.zeroCells (Value.int .u8 0).cells n ++ Builtin.zeroCells (Value.int .u8 0).cells (cap - n)) 5 (0, 0)) := by
      rw [← HW.out]; exact heap_alloc_new w.drew _
    refine ⟨_, rfl, ⟨rfl, .inr ⟨w.heap.size, 0, cap, rfl, Nat.zero_le _, h1, lt_of_block hb, fun j hj => ?_, fun j hj => ?_, fun j h => absurd h (by simp)⟩⟩, hN, fun g hg => by cases hg; exact Nat.le_refl _⟩
    · have hsz : j < (Builtin.zeroCells (Value.int .u8 0).cells n ++ Builtin.zeroCells (Value.int .u8 0).cells (cap - n)).size := by
        simp only [Array.size_append, size_zeroCells]
        simp only [show (Value.int .u8 0).cells.size = 1 from rfl]
        omega
      rw [Nat.zero_add]
      simp only [World.cell?, hb]
      rw [Array.getElem?_eq_getElem hsz]; rfl
    · simp [World.frozen?, hb]

theorem and127 (m : Nat) (h : m < 18446744073709551616) : bits .and .u64 (m : Int) 127 = ((m % 128 : Nat) : Int) := by
  have := bits_mask .u64 64 (by decide) Go.wraps_u64 7 (by decide) (m : Int) (by omega) (by omega)
  rw [show ((2 : Int) ^ 7 - 1) = 127 by decide] at this
  rw [this]; omega
theorem or128 : ∀ q : Nat, q < 128 → bits .or .u8 (q : Int) 128 = ((q + 128 : Nat) : Int) := by
  have h : ∀ q : Fin 128, bits .or .u8 ((q.val : Nat) : Int) 128 = ((q.val + 128 : Nat) : Int) := by decide +kernel
  exact fun q hq => h ⟨q, hq⟩
theorem sliceTen (g : Nat) (k : Nat) (hk : k ≤ 9) (W : World) : (Instr.sliceAt 141 (.pointer (some ⟨g, 0, none⟩)) none (some (.int .i64 ((k : Int) + 1))) none).run Tryz.prog W = .ok (.slice (some ⟨g, 0, none⟩) (k + 1) 10) W := by
  have hal : Tryz.prog.arrayLen 141 = 10 := by kernel_rfl
  rw [run_sliceAt_array_h W 141 ⟨g, 0, none⟩ (by kernel_rfl) .i64 ((k : Int) + 1) (by omega) (by rw [hal]; omega)]
  go_simp

theorem Uint_ok {w : World} {v : Value} {l : List UInt8} (hv : Vec 1 w v l.length (l.map u8)) (n : Nat) (hn : n < 18446744073709551616) (hl : l.length ≤ 100000000) :
    Calls Tryz.prog 62 #[v, .int .u64 n] w fun e w' => ∃ v', e = .returned v' ∧ Vec 1 w' v' (l ++ uintB n).length ((l ++ uintB n).map u8) ∧ Only (fun k => v.ownBlock = some k) w w' ∧ (v'.ownBlock = v.ownBlock ∨ ∀ g, v'.ownBlock = some g → w.heap.size ≤ g) := by
  have HV := Lib.hid hv
  obtain ⟨sa, sc, rfl, hsl⟩ := hv.len
  clear hv hsl
  obtain ⟨i0, hi, hz0, hz1, hz2⟩ := info_parts infoU8
  have HI := Lib.hid hi
  have HZ0 := Lib.hid hz0
  have HZ1 := Lib.hid hz1
  have HZ2 := Lib.hid hz2
  clear hi hz0 hz1 hz2
  go_enter Tryz.func62, Tryz.ntmps62
  go_wp2
  go_loopw [1, 6] (fun n' k wr => ∃ (pre : List UInt8) (m : Nat) (cs : Array Value), n' = .int .u64 m ∧ k = .int .i64 pre.length ∧ pre ++ uintB m = uintB n ∧ m * 128 ^ pre.length < 2 ^ 64 ∧ pre.length ≤ 9 ∧ cs.size = 10 ∧
    (∀ j (h : j < pre.length), cs[j]? = some (Go.Proofs.YtphgiobklbpdeaaGreatDoor.u8 pre[j])) ∧ wr.heap[w.heap.size]? = some (.cells cs 141 (0, 0)) ∧ Nw w wr) (fun n' _ _ => (intOf n').toNat)
  case atStart => exact ⟨[], n, _, rfl, rfl, rfl, by simpa using hn, by simp, rfl, fun j h => absurd h (by simp), heap_alloc_new _ _, (Nw.refl w).alloc _⟩
  case round =>
    obtain ⟨pre, m, cs, rfl, rfl, hpre, hm, hk, hcs, hj, hb, hw⟩ := hrel
    have hmlt : m < 18446744073709551616 := by
      have : m * 1 ≤ m * 128 ^ pre.length := Nat.mul_le_mul_left _ (Nat.one_le_pow _ _ (by decide))
      omega
    have hand := and127 m hmlt
    have HP := Lib.hid hpre
    have HM := Lib.hid hm
    have HJ := Lib.hid hj
    have HW := Lib.hid hw
    have HC := Lib.hid hcs
    clear hpre hm hj hw
    generalize hpl : pre.length = pl at hk
    have HPL := Lib.hid hpl
    obtain ⟨u, hc⟩ : ∃ u, wr.cell? ⟨w.heap.size, pl, none⟩ = some u := by
      have hlt' : pl < cs.size := by omega
      simp [World.cell?, hb, hlt']
    have hf : wr.frozen? ⟨w.heap.size, pl, none⟩ = false := by simp [World.frozen?, hb]
    have HB := Lib.hid hb
    clear hb hcs hpl
    have hlt : m % 128 < 128 := by omega
    have hq : ((m % 128 : Nat) : Int) % 256 = ((m % 128 : Nat) : Int) := by omega
    by_cases hs : m < 128
    · have hdiv : (m : Int) / 128 = 0 := by omega
      have hmod : m % 128 = m := Nat.mod_eq_of_lt hs
      rw [hmod] at hand hq
      have hsl := sliceTen w.heap.size pl hk
      have HS : Hid (SrcV 1 (wr.setCell ⟨w.heap.size, pl, none⟩ (.int .u8 m)) (.slice (some ⟨w.heap.size, 0, none⟩) (pl + 1) 10) (pl + 1) ((pre ++ [UInt8.ofNat m]).map Go.Proofs.YtphgiobklbpdeaaGreatDoor.u8)) := by
        show SrcV _ _ _ _ _
        obtain rfl := HPL.out
        refine ⟨by simp, .inr ⟨w.heap.size, 0, 10, rfl, by omega, by decide, by simpa using lt_of_block HB.out, fun j hj' => ?_⟩⟩
        simp only [List.length_map, List.length_append, List.length_singleton] at hj'
        rw [Nat.zero_add]
        by_cases hjl : j < pre.length
        · have : (⟨w.heap.size, pre.length, none⟩ : Addr) ≠ ⟨w.heap.size, j, none⟩ := fun e => by injection e; omega
          rw [World.cell?_setCell_other (h := this)]
          simp only [World.cell?, HB.out, HJ.out j hjl, List.getElem_map, List.getElem_append_left hjl]
          rfl
        · obtain rfl : j = pre.length := by omega
          rw [World.cell?_setCell_same (h := hc)]
          simp [Go.Proofs.YtphgiobklbpdeaaGreatDoor.u8]
          omega
      have HV1 : Hid (Vec 1 (wr.setCell ⟨w.heap.size, pl, none⟩ (.int .u8 m)) (.slice sa l.length sc) l.length (l.map Go.Proofs.YtphgiobklbpdeaaGreatDoor.u8)) :=
        Lib.hid (HV.out.nw (Only.setCell (S := fun _ => False) HW.out (fun h => absurd h (by simp)) _))
      go_wp2_with (at_builtin; refine wpList_append_vec rfl _ _ 23 rfl 5 i0 (.int .u8 0) 1 1 Tryz.underlying23 HI.out HZ0.out HZ1.out HZ2.out rfl (by decide) rfl rfl HV1.out HS.out ?c1 ?c2 ?c3 ?_)
      case c1 => exact fun u hu => by obtain ⟨y, _, rfl⟩ := List.mem_map.1 hu; exact u8_cell y
      case c2 => unfold maxLen; omega
      case c3 => omega
      intro v' w2 h1 h2 h3
      have H1 := Lib.hid h1
      have H2 := Lib.hid h2
      have H3 := Lib.hid h3
      clear h1 h2 h3
      go_wp2
      go_ret
      have e : l ++ uintB n = l ++ (pre ++ [UInt8.ofNat m]) := by rw [← HP.out, uintB_small hs]
      have hw1 : Nw w (wr.setCell ⟨w.heap.size, pl, none⟩ (.int .u8 m)) := Only.setCell (S := fun _ => False) HW.out (fun h => absurd h (by simp)) _
      refine ⟨v', rfl, ?_, hw1.only.trans' H2.out (fun k _ hk => hk), H3.out.imp id (fun h g hg => by have := h g hg; have := hw1.size; simp only [World.size_setCell] at *; omega)⟩
      have := H1.out
      rw [e, List.map_append, List.map_append (l₂ := [UInt8.ofNat m]), List.map_singleton, show (l ++ (pre ++ [UInt8.ofNat m])).length = l.length + (pl + 1) by simp [← HPL.out]]
      exact this
    · have hne : ((m : Int) / 128 == 0) = false := by simp; omega
      have hor := or128 (m % 128) hlt
      have c1 : (wr.setCell ⟨w.heap.size, pl, none⟩ (.int .u8 ((m % 128 : Nat) : Int))).cell? ⟨w.heap.size, pl, none⟩ = some (.int .u8 ((m % 128 : Nat) : Int)) := World.cell?_setCell_same _ _ _ hc
      have f1 : (wr.setCell ⟨w.heap.size, pl, none⟩ (.int .u8 ((m % 128 : Nat) : Int))).frozen? ⟨w.heap.size, pl, none⟩ = false := by rw [World.frozen?_setCell]; exact hf
      generalize hq0 : m % 128 = q at *
      have HQ0 := Lib.hid hq0
      clear hq0 hlt
      go_wp2
      have hmq : m % 128 = q := HQ0.out
      have hw1 : Nw w ((wr.setCell ⟨w.heap.size, pl, none⟩ (.int .u8 (q : Int))).setCell ⟨w.heap.size, pl, none⟩ (.int .u8 ((q + 128 : Nat) : Int))) :=
        Only.setCell (S := fun _ => False) (Only.setCell (S := fun _ => False) HW.out (fun h => absurd h (by simp)) _) (fun h => absurd h (by simp)) _
      obtain rfl := HPL.out
      have h64 : m * 128 ^ pre.length < 2 ^ 64 := HM.out
      have hle : pre.length + 1 ≤ 9 := by
        refine Nat.lt_of_not_le fun h9 => ?_
        have e9 : pre.length = 9 := by omega
        rw [e9] at h64
        have : 128 * 128 ^ 9 ≤ m * 128 ^ 9 := Nat.mul_le_mul_right _ (by omega)
        have e2 : (2 : Nat) ^ 64 < 128 * 128 ^ 9 := by decide
        omega
      have hb2 := heap_setCell_at (heap_setCell_at HB.out pre.length (.int .u8 (q : Int))) pre.length (.int .u8 ((q + 128 : Nat) : Int))
      have hq7 : (UInt8.ofNat (q + 128)).toNat = q + 128 := by simp; omega
      have hcs : cs.size = 10 := HC.out
      go_roundw
      case rel =>
        refine ⟨pre ++ [UInt8.ofNat (q + 128)], m / 128, _, ?_, ?_, ?_, ?_, ?_, ?_, ?_, hb2, hw1⟩
        · simp
        · simp
        · rw [List.append_assoc, List.singleton_append, ← HP.out, uintB_big hs, hmq]
        · rw [List.length_append, List.length_singleton, Nat.pow_succ]
          refine Nat.lt_of_le_of_lt ?_ h64
          rw [Nat.mul_comm (128 ^ pre.length) 128, ← Nat.mul_assoc]
          exact Nat.mul_le_mul_right _ (by omega)
        · simpa using hle
        · simp [hcs]
        · intro j hj
          simp only [List.length_append, List.length_singleton] at hj
          by_cases hjl : j < pre.length
          · rw [Array.getElem?_setIfInBounds_ne (by omega), Array.getElem?_setIfInBounds_ne (by omega), HJ.out j hjl, List.getElem_append_left hjl]
          · obtain rfl : j = pre.length := by omega
            rw [Array.getElem?_setIfInBounds_self_of_lt (by simp; omega)]
            simp only [List.getElem_append_right (Nat.le_refl _), Nat.sub_self, List.getElem_singleton, Go.Proofs.YtphgiobklbpdeaaGreatDoor.u8, hq7]
      case measure =>
        simp only [intOf]
        have e1 : ((m : Int) / 128).toNat = m / 128 := by omega
        simp [e1]
        omega
end Go.Proofs.YtphgiobklbpdeaaGreatDoor
