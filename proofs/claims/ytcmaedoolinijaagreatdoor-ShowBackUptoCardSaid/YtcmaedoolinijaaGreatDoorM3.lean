/-
  Texts merged by a program of this claim's: Quiet, App, Vec, WordsB.
-/
import Derived.Test.YtcmaedoolinijaaGreatDoorM1
import Derived.Laws.AppendOwn
import Derived.OwnWalk
import Derived.ArgAppend
import Derived.Laws.IdiomCopy
import Derived.Lib.ConvBytes
import Derived.Test.YtcmaedoolinijaaGreatDoorM2
import Derived.WalkMore
namespace Go.Proofs.YtcmaedoolinijaaGreatDoor
open Go Go.RowKit Go.Sort
theorem quiet_nw {P : Program} {f : FuncId} {args : Array Value} {w : World} {p : Regrown} {v : Value} (h : ∀ w1, Nw w w1 → Calls P f args w1 fun e w' => e = .returned v ∧ Nw w1 w') :
    Calls P f args (grow (redrawn w p.d) p.os) fun e w'' => e = .returned v ∧ ∃ p' : Regrown, w'' = grow (redrawn w p'.d) p'.os := by
  have hp : Nw w (grow (redrawn w p.d) p.os) := Nw.of_regrown ⟨p, rfl⟩
  exact (h _ hp).mono fun e w' ⟨he, hw⟩ => ⟨he, (hp.trans hw).regrown⟩
theorem cellG {w : World} {a : Addr} {v : Value} (h : w.cell? a = some v) : ∀ (p : Regrown), (grow (redrawn w p.d) p.os).cell? a = some v := fun p => cell_regrown h p.d p.os
end Go.Proofs.YtcmaedoolinijaaGreatDoor

namespace Go.Proofs.YtcmaedoolinijaaGreatDoor
open Go Go.RowKit
def Rd {α : Type} (f : α → Value) (w : World) (v : Value) (l : List α) : Prop :=
  (∃ a, v = .slice a 0 0 ∧ l = []) ∨ ∃ g o cap, v = .slice (some ⟨g, o, none⟩) l.length cap ∧ l.length ≤ cap ∧ cap ≤ maxLen ∧ g < w.heap.size ∧
    ∀ i (h : i < l.length), w.cell? ⟨g, o + i, none⟩ = some (f l[i])
theorem Rd.keep {α : Type} {f : α → Value} {S : Nat → Prop} {w w' : World} {v : Value} {l : List α} (h : Rd f w v l) (ho : Only S w w') (hb : l ≠ [] → ∀ g, v.ownBlock = some g → ¬ S g) : Rd f w' v l := by
  rcases h with h | ⟨g, o, cap, rfl, h1, h2, hg, h3⟩
  · exact .inl h
  · exact .inr ⟨g, o, cap, rfl, h1, h2, Nat.lt_of_lt_of_le hg ho.size, fun i hi => ho.cell (h3 i hi) (hb (fun e => by rw [e] at hi; exact absurd hi (by simp)) g rfl)⟩
theorem Rd.nw {α : Type} {f : α → Value} {w w' : World} {v : Value} {l : List α} (h : Rd f w v l) (ho : Nw w w') : Rd f w' v l := h.keep ho (fun _ _ _ hf => hf)
theorem Rd.lt {α : Type} {f : α → Value} {w : World} {v : Value} {l : List α} (h : Rd f w v l) (hne : l ≠ []) : ∀ g, v.ownBlock = some g → g < w.heap.size := by
  rcases h with ⟨a, rfl, e⟩ | ⟨g, o, cap, rfl, h1, h2, hg, h3⟩
  · exact absurd e hne
  · intro k hk; cases hk; exact hg
theorem Rd.len {α : Type} {f : α → Value} {w : World} {v : Value} {l : List α} (h : Rd f w v l) : ∃ a cap, v = .slice a l.length cap ∧ l.length ≤ maxLen := by
  rcases h with ⟨a, rfl, rfl⟩ | ⟨g, o, cap, rfl, h1, h2, hg, h3⟩
  · exact ⟨_, _, rfl, Nat.zero_le _⟩
  · exact ⟨_, _, rfl, Nat.le_trans h1 h2⟩
theorem Rd.elems {α : Type} {f : α → Value} {w : World} {v : Value} {l : List α} (h : Rd f w v l) : ∃ a cap, v = .slice a l.length cap ∧ l.length ≤ cap ∧ cap ≤ maxLen ∧
    ∀ i (h : i < l.length), ∃ g o, a = some ⟨g, o, none⟩ ∧ g < w.heap.size ∧ w.cell? ⟨g, o + i, none⟩ = some (f l[i]) := by
  rcases h with ⟨a, rfl, rfl⟩ | ⟨g, o, cap, rfl, h1, h2, hg, h3⟩
  · exact ⟨_, _, rfl, by simp, by simp, fun i hi => absurd hi (by simp)⟩
  · exact ⟨_, _, rfl, h1, h2, fun i hi => ⟨g, o, rfl, hg, h3 i hi⟩⟩
def RowF {α : Type} (f : α → Value) (e : TypeId) (w : World) (v : Value) (l : List α) : Prop :=
  (v = .slice none 0 0 ∧ l = []) ∨ ∃ g cap cur, v = .slice (some ⟨g, 0, none⟩) l.length cap ∧ w.heap[g]? = some (.cells cur e (0, 0)) ∧ l.length ≤ cap ∧ cap ≤ cur.size ∧ cap ≤ maxLen ∧
    cur.toList.take l.length = l.map f

theorem RowF.keep {α : Type} {f : α → Value} {e : TypeId} {w w' : World} {v : Value} {l : List α} (h : RowF f e w v l) (hb : ∀ g, v.ownBlock = some g → w'.heap[g]? = w.heap[g]?) : RowF f e w' v l := by
  rcases h with h | ⟨g, cap, cur, rfl, h1, h2⟩
  · exact .inl h
  · exact .inr ⟨g, cap, cur, rfl, by rw [hb g rfl]; exact h1, h2⟩
theorem RowF.cells {α : Type} {f : α → Value} {e : TypeId} {w : World} {g : Nat} {cur : Array Value} {l : List α} (h1 : w.heap[g]? = some (.cells cur e (0, 0))) (h5 : cur.toList.take l.length = l.map f) (i : Nat) (hi : i < l.length) :
    w.cell? ⟨g, i, none⟩ = some (f l[i]) := by
  have e : cur.toList[i]? = (l.map f)[i]? := by rw [← h5]; simp [hi]
  have e' : cur[i]? = some (f l[i]) := by
    have : cur.toList[i]? = cur[i]? := by simp
    rw [← this, e]; simp [hi]
  simp [World.cell?, h1, e']
theorem RowF.rd {α : Type} {f : α → Value} {e : TypeId} {w : World} {v : Value} {l : List α} (h : RowF f e w v l) : Rd f w v l := by
  rcases h with h | ⟨g, cap, cur, rfl, h1, h2, h3, h4, h5⟩
  · exact .inl ⟨_, h⟩
  · exact .inr ⟨g, 0, cap, rfl, h2, h4, lt_of_block h1, fun i hi => by rw [Nat.zero_add]; exact RowF.cells h1 h5 i hi⟩
theorem RowF.lt {α : Type} {f : α → Value} {e : TypeId} {w : World} {v : Value} {l : List α} (h : RowF f e w v l) : ∀ g, v.ownBlock = some g → g < w.heap.size := by
  rcases h with ⟨rfl, _⟩ | ⟨g, cap, cur, rfl, h1, _⟩
  · intro g hg; cases hg
  · intro k hk; cases hk; exact lt_of_block h1
theorem RowF.alloc {α : Type} {f : α → Value} {e : TypeId} {w : World} {v : Value} {l : List α} (h : RowF f e w v l) (o : Obj) : RowF f e (w.alloc o) v l :=
  h.keep fun g hg => heap_alloc_old _ _ (h.lt g hg)
theorem RowF.nil {α : Type} {f : α → Value} {e : TypeId} {w : World} : RowF f e w (.slice none 0 0) [] := .inl ⟨rfl, rfl⟩

section
variable {α : Type} {f : α → Value} {P : Program} {w : World}

end
end Go.Proofs.YtcmaedoolinijaaGreatDoor

namespace Go.Proofs.YtcmaedoolinijaaGreatDoor
open Go Go.RowKit

theorem addr_add (g o n : Nat) : (⟨g, o, none⟩ : Addr).add n = ⟨g, o + n, none⟩ := by
  unfold Addr.add
  split
  · rename_i h; subst h; rfl
  · rfl
def SrcV (k : Nat) (w : World) (v : Value) (n : Nat) (cs : List Value) : Prop :=
  cs.length = n * k ∧ ((∃ a, v = .slice a 0 0 ∧ n = 0) ∨ ∃ g o cap, v = .slice (some ⟨g, o, none⟩) n cap ∧ n ≤ cap ∧ cap ≤ maxLen ∧ g < w.heap.size ∧ ∀ j (h : j < cs.length), w.cell? ⟨g, o + j, none⟩ = some cs[j])
def Vec (k : Nat) (w : World) (v : Value) (n : Nat) (cs : List Value) : Prop :=
  cs.length = n * k ∧ ((v = .slice none 0 0 ∧ n = 0) ∨ ∃ g o cap, v = .slice (some ⟨g, o, none⟩) n cap ∧ n ≤ cap ∧ cap ≤ maxLen ∧ g < w.heap.size ∧
    (∀ j, j < cap * k → (w.cell? ⟨g, o + j, none⟩).isSome = true) ∧ (∀ j, j < cap * k → w.frozen? ⟨g, o + j, none⟩ = false) ∧ ∀ j (h : j < cs.length), w.cell? ⟨g, o + j, none⟩ = some cs[j])

section
variable {k n : Nat} {w w' : World} {v : Value} {cs : List Value}
theorem Vec.src (h : Vec k w v n cs) : SrcV k w v n cs := by
  obtain ⟨h0, ⟨rfl, h⟩ | ⟨g, o, cap, rfl, h1, h2, h3, -, -, h6⟩⟩ := h
  · exact ⟨h0, .inl ⟨_, rfl, h⟩⟩
  · exact ⟨h0, .inr ⟨g, o, cap, rfl, h1, h2, h3, h6⟩⟩
theorem Vec.nil {k : Nat} {w : World} : Vec k w (.slice none 0 0) 0 [] := ⟨by simp, .inl ⟨rfl, rfl⟩⟩
theorem Vec.lt (h : Vec k w v n cs) : ∀ g, v.ownBlock = some g → g < w.heap.size := by
  obtain ⟨-, ⟨rfl, -⟩ | ⟨g, o, cap, rfl, -, -, h3, -⟩⟩ := h
  · intro g hg; cases hg
  · intro g' hg; cases hg; exact h3
theorem Vec.keep (h : Vec k w v n cs) (hs : w.heap.size ≤ w'.heap.size) (hb : ∀ g, v.ownBlock = some g → w'.heap[g]? = w.heap[g]?) : Vec k w' v n cs := by
  obtain ⟨h0, h | ⟨g, o, cap, rfl, h1, h2, h3, h4, h5, h6⟩⟩ := h
  · exact ⟨h0, .inl h⟩
  · have hg := hb g rfl
    refine ⟨h0, .inr ⟨g, o, cap, rfl, h1, h2, Nat.lt_of_lt_of_le h3 hs, fun j hj => ?_, fun j hj => ?_, fun j hj => ?_⟩⟩
    · rw [World.cell?_of_block (w := w) hg]; exact h4 j hj
    · rw [World.frozen?_of_block (w := w) hg]; exact h5 j hj
    · rw [World.cell?_of_block (w := w) hg]; exact h6 j hj
theorem Vec.nw (h : Vec k w v n cs) (hw : Nw w w') : Vec k w' v n cs := h.keep hw.size fun g hg => hw.block g (h.lt g hg) (fun hf => hf)
theorem Vec.len (h : Vec k w v n cs) : ∃ a cap, v = .slice a n cap ∧ n ≤ cap ∧ cap ≤ maxLen := by
  obtain ⟨-, ⟨rfl, rfl⟩ | ⟨g, o, cap, rfl, h1, h2, -⟩⟩ := h
  · exact ⟨_, _, rfl, by simp, by simp⟩
  · exact ⟨_, _, rfl, h1, h2⟩
theorem SrcV.nw (h : SrcV k w v n cs) (hw : Nw w w') : SrcV k w' v n cs := by
  obtain ⟨h0, h | ⟨g, o, cap, rfl, h1, h2, h3, h6⟩⟩ := h
  · exact ⟨h0, .inl h⟩
  · exact ⟨h0, .inr ⟨g, o, cap, rfl, h1, h2, Nat.lt_of_lt_of_le h3 hw.size, fun j hj => hw.cell (h6 j hj)⟩⟩
theorem SrcV.len (h : SrcV k w v n cs) : ∃ a cap, v = .slice a n cap ∧ n ≤ cap ∧ cap ≤ maxLen := by
  obtain ⟨-, ⟨a, rfl, rfl⟩ | ⟨g, o, cap, rfl, h1, h2, -⟩⟩ := h
  · exact ⟨_, _, rfl, by simp, by simp⟩
  · exact ⟨_, _, rfl, h1, h2⟩
theorem Vec.rd {α : Type} {f : α → Value} {l : List α} (h : Vec 1 w v l.length (l.map f)) : Rd f w v l := by
  obtain ⟨-, ⟨rfl, hn⟩ | ⟨g, o, cap, rfl, h1, h2, h3, h4, -, h6⟩⟩ := h
  · exact .inl ⟨_, rfl, List.eq_nil_of_length_eq_zero hn⟩
  · refine .inr ⟨g, o, cap, rfl, h1, h2, h3, fun i hi => ?_⟩
    have := h6 i (by simpa using hi)
    simpa using this
theorem Vec.of_owns {base e : Nat} (h : w.ownsRow base e k v n cs) : Vec k w v n cs ∧ ∀ g, v.ownBlock = some g → base ≤ g := by
  obtain ⟨h0, ⟨rfl, hn⟩ | ⟨g, cap, cur, rfl, hb, h1, h2, h3, h4, h5⟩⟩ := h
  · exact ⟨⟨h0, .inl ⟨rfl, hn⟩⟩, fun g hg => by cases hg⟩
  · refine ⟨⟨h0, .inr ⟨g, 0, cap, rfl, h2, h3, lt_of_block h1, fun j hj => ?_, fun j hj => ?_, fun j hj => ?_⟩⟩, fun g' hg => by cases hg; exact hb⟩
    · have : j < cur.size := by omega
      simp [World.cell?, h1, this]
    · simp [World.frozen?, h1]
    · have e : cur.toList[j]? = cs[j]? := by rw [← h5, List.getElem?_take]; rw [if_pos (by omega)]
      have e2 : cur[j]? = some cs[j] := by
        have : cur.toList[j]? = cur[j]? := by simp
        rw [← this, e]; simp
      simp [World.cell?, h1, e2]
theorem Only.setCells {S : Nat → Prop} {b : Nat} : ∀ (vs : List Value) (o : Nat) (w : World), (b < w.heap.size → S b) → Only S w (w.setCells b o vs)
  | [], _, w, _ => Only.refl w
  | u :: r, o, w, hb => by
    rw [World.setCells]
    exact ((Only.refl w).setCell (p := ⟨b, o, none⟩) hb u).trans (Only.setCells r (o + 1) _ (fun h => hb (by simpa using h)))

theorem run_append_vec {P : Program} (t ty e : TypeId) (i : TypeInfo) (z : Value) (size bytes : Nat) (ht : P.underlying t = some (.slice e)) (hi : P.info? e = some i) (hz : i.zero = some z)
    (hsize : i.size = size) (hby : i.bytes = bytes) (hzs : z.cells.size = size) (hsz : 0 < size) {x : Value} {m : Nat} {news : List Value} (hv : Vec size w v n cs) (hx : SrcV size w x m news) (h1 : ∀ u ∈ news, u.oneCell' = true)
    (h63 : n + m ≤ maxLen) (hbytes : (n + m) * bytes ≤ 140737488355328) :
    ∃ v' w', (Builtin.append_ #[t, t] ty #[v, x]).run P w = .ok v' w' ∧ Vec size w' v' (n + m) (cs ++ news) ∧ Only (fun b => v.ownBlock = some b) w w' ∧
      (v'.ownBlock = v.ownBlock ∨ ∀ g, v'.ownBlock = some g → w.heap.size ≤ g) := by
  have hv0 := hv
  obtain ⟨hxl, ⟨ax, rfl, rfl⟩ | ⟨gx, ox, cx, rfl, hx1, hx2, hx3, hx4⟩⟩ := hx
  · obtain rfl : news = [] := List.eq_nil_of_length_eq_zero (by simpa using hxl)
    refine ⟨v, w, ?_, by simpa using hv, Only.refl _, .inl rfl⟩
    obtain ⟨-, ⟨rfl, rfl⟩ | ⟨g, o, cap, rfl, h2, -⟩⟩ := hv
    · cases ax <;> simp [Builtin.append_, run_underlying ht, sizeOf, typeInfo, hi, Builtin.lenOf, Builtin.firstCells, loadCells, loadCellsFrom]
    · cases ax <;> simp [Builtin.append_, run_underlying ht, sizeOf, typeInfo, hi, Builtin.lenOf, Builtin.firstCells, h2, storeCells, loadCells, loadCellsFrom]
  · have hnews : ∀ j u, news[j]? = some u → w.cell? ((⟨gx, ox, none⟩ : Addr).add j) = some u := by
      intro j u hj
      obtain ⟨hlt, he⟩ := List.getElem?_eq_some_iff.1 hj
      rw [addr_add, hx4 j hlt, he]
    obtain ⟨hvl, ⟨rfl, rfl⟩ | ⟨g, o, cap, rfl, g1, g2, g3, g4, g5, g6⟩⟩ := hv
    · obtain rfl : cs = [] := List.eq_nil_of_length_eq_zero (by simpa using hvl)
      obtain ⟨v', w', hr, ho, hg, -⟩ := run_append_own (P := P) w w.heap.size t ty e i z size bytes ht hi hz hsize hby hzs hsz _ 0 [] (World.ownsRow_nil w w.heap.size e size) ⟨gx, ox, none⟩ m cx news hxl hnews h1 (by simpa using h63) (by simpa using hbytes) (Nat.le_refl _)
      obtain ⟨hV, hf⟩ := Vec.of_owns ho
      exact ⟨v', w', hr, hV, (Only.refl w).grown hg (fun k hk _ => hk), .inr hf⟩
    · have holds : ∀ j u, cs[j]? = some u → w.cell? ((⟨g, o, none⟩ : Addr).add j) = some u := by
        intro j u hj
        obtain ⟨hlt, he⟩ := List.getElem?_eq_some_iff.1 hj
        rw [addr_add, g6 j hlt, he]
      by_cases hroom : n + m ≤ cap
      · have hfit : (n + m) * size ≤ cap * size := Nat.mul_le_mul_right _ hroom
        rw [Nat.add_mul] at hfit
        have c1 : ∀ j, j < news.length → (w.cell? ⟨g, o + n * size + j, none⟩).isSome = true := fun j hj => by
          rw [Nat.add_assoc]; exact g4 _ (by omega)
        have c2 : ∀ j, j < news.length → w.frozen? ⟨g, o + n * size + j, none⟩ = false := fun j hj => by
          rw [Nat.add_assoc]; exact g5 _ (by omega)
        have hr := run_append_room_cells (P := P) (w := w) t ty e i ht hi g o n cap ⟨gx, ox, none⟩ m cx news (by rw [hsize]; exact hxl) hnews h1 hroom (by rw [hsize]; exact c1) (by rw [hsize]; exact c2)
        rw [hsize] at hr
        have hO : Only (fun b => (Value.slice (some ⟨g, o, none⟩) n cap).ownBlock = some b) w (w.setCells g (o + n * size) news) := Only.setCells news _ w (fun _ => rfl)
        refine ⟨_, _, hr, ⟨by rw [List.length_append, hvl, hxl, Nat.add_mul], .inr ⟨g, o, cap, rfl, hroom, g2, Nat.lt_of_lt_of_le g3 hO.size, fun j hj => ?_, fun j hj => ?_, fun j hj => ?_⟩⟩, hO, .inl rfl⟩
        · by_cases hin : n * size ≤ j ∧ j < n * size + news.length
          · have := World.cell?_setCells_in g news (o + n * size) w c1 (j - n * size) (by omega)
            rw [show o + n * size + (j - n * size) = o + j by omega] at this
            rw [this]; rfl
          · rw [World.cell?_setCells_out g news (o + n * size) w ⟨g, o + j, none⟩ (fun _ _ => by show o + j < o + n * size ∨ o + n * size + news.length ≤ o + j; omega)]
            exact g4 j hj
        · rw [World.frozen?_setCells]; exact g5 j hj
        · by_cases hin : j < cs.length
          · rw [World.cell?_setCells_out g news (o + n * size) w ⟨g, o + j, none⟩ (fun _ _ => by show o + j < o + n * size ∨ o + n * size + news.length ≤ o + j; omega), g6 j hin, List.getElem_append_left hin]
          · have hj' : j < cs.length + news.length := by simpa using hj
            have := World.cell?_setCells_in g news (o + n * size) w c1 (j - n * size) (by omega)
            rw [show o + n * size + (j - n * size) = o + j by omega] at this
            rw [this, List.getElem_append_right (by omega)]
            congr 2
            omega
      · obtain ⟨v', w', hr, ho, hg⟩ := run_append_arg_grows (P := P) (w := w) t ty e i z size bytes ht hi hz hsize hby hzs hsz ⟨g, o, none⟩ n cap cs hvl holds ⟨gx, ox, none⟩ m cx news hxl hnews (by omega) h63 hbytes
        obtain ⟨hV, hf⟩ := Vec.of_owns ho
        exact ⟨v', w', hr, hV, (Only.refl w).grown hg (fun k hk _ => by cases hk), .inr hf⟩

theorem wpList_append_vec {P : Program} {ops : Array Oper} {rest : List Oper} {o : Oper} {a : Act} {Q : Exit → Act → World → Prop} (hgd : o.guard = none) (s x : Operand) (t : TypeId)
    (ho : o.op = .call { callee := .builtin .append, args := #[s, x], argTypes := #[t, t] })
    (e : TypeId) (i : TypeInfo) (z : Value) (size bytes : Nat) (ht : P.underlying t = some (.slice e)) (hi : P.info? e = some i) (hz : i.zero = some z) (hsize : i.size = size) (hby : i.bytes = bytes) (hzs : z.cells.size = size) (hsz : 0 < size)
    {src : Value} {m : Nat} {news : List Value} (hs : a.eval s = v) (hx : a.eval x = src) (hv : Vec size w v n cs) (hsrc : SrcV size w src m news) (h1 : ∀ u ∈ news, u.oneCell' = true)
    (hlen : n + m ≤ maxLen) (hbytes : (n + m) * bytes ≤ 140737488355328)
    (h : ∀ v' w', Vec size w' v' (n + m) (cs ++ news) → Only (fun k => v.ownBlock = some k) w w' → (v'.ownBlock = v.ownBlock ∨ ∀ g, v'.ownBlock = some g → w.heap.size ≤ g) →
      wpList P ops Q rest (a.put o.dst v') w') : wpList P ops Q (o :: rest) a w := by
  obtain ⟨v', w', hr, h2, h3, h4⟩ := run_append_vec (P := P) (w := w) t o.type e i z size bytes ht hi hz hsize hby hzs hsz hv hsrc h1 hlen hbytes
  refine wpList_plain hgd fun K hK => ?_
  unfold Oper.wp execOp
  simp only [ho, resolve, invoke, builtin, Sem.run_bind, Sem.run_pure, Result.andThen_ok, List.map_toArray, List.map_cons, List.map_nil, hs, hx, hr]
  exact hK _ _ (h v' w' h2 h3 h4)
theorem src_lit (w : World) (t : TypeId) (fz : Nat × Nat) (k n c : Nat) (cs : List Value) (hk : cs.length = n * k) (hn : n ≤ c) (hc : c ≤ maxLen) :
    SrcV k (w.alloc (.cells cs.toArray t fz)) (.slice (some ⟨w.heap.size, 0, none⟩) n c) n cs := by
  refine ⟨hk, .inr ⟨w.heap.size, 0, c, rfl, hn, hc, by simp, fun j hj => ?_⟩⟩
  have : (w.alloc (.cells cs.toArray t fz)).heap[w.heap.size]? = some (.cells cs.toArray t fz) := heap_alloc_new w _
  unfold World.cell?
  rw [show (⟨w.heap.size, 0 + j, none⟩ : Addr).block = w.heap.size from rfl, this]
  simp [hj]
theorem Vec.of_conv (w : World) (e : TypeId) (s : List UInt8) (hs : s.length ≤ maxLen) : Vec 1 (Lib.bytesWorld w e ⟨s.toArray⟩) (.slice (some ⟨w.heap.size, 0, none⟩) s.length (grownCap w s.length 0 e)) s.length (s.map fun c => Value.int .u8 c.toNat) ∧ Nw w (Lib.bytesWorld w e ⟨s.toArray⟩) := by
  have hge := grownCap_ge w s.length 0 e
  have hcm := grownCap_le_maxLen w s.length 0 e hs
  have hb := Lib.bytesWorld_at_new w e ⟨s.toArray⟩
  have hcs : (Lib.bytesCells w e ⟨s.toArray⟩).size = grownCap w s.length 0 e := by
    simp only [Lib.bytesCells, Array.size_append, Array.size_map, List.size_toArray, Array.size_replicate]
    show s.length + (grownCap w s.length 0 e - s.length) = _
    omega
  refine ⟨⟨by simp, .inr ⟨w.heap.size, 0, _, rfl, hge, hcm, by rw [Lib.bytesWorld_size]; omega, fun j hj => ?_, fun j hj => ?_, fun j hj => ?_⟩⟩, ?_⟩
  · have : j < (Lib.bytesCells w e ⟨s.toArray⟩).size := by rw [hcs]; simpa using hj
    simp [World.cell?, hb, this]
  · have : j < (Lib.bytesCells w e ⟨s.toArray⟩).size := by rw [hcs]; simpa using hj
    simp only [World.frozen?, hb, Nat.zero_add]
    simp; omega
  · have hj' : j < s.length := by simpa using hj
    have := Lib.bytesWorld_cell w e ⟨s.toArray⟩ j (by simpa [ByteArray.size] using hj')
    rw [Nat.zero_add, this]
    simp [List.getD, hj']
  · refine ⟨rfl, rfl, rfl, by rw [Lib.bytesWorld_size]; omega, fun k hk _ => Lib.bytesWorld_at_old w e ⟨s.toArray⟩ k hk⟩
end
end Go.Proofs.YtcmaedoolinijaaGreatDoor

namespace Go.Proofs.YtcmaedoolinijaaGreatDoor
open Go Go.RowKit Go.Sort
set_option maxRecDepth 100000
set_option maxHeartbeats 3200000
def Cls (w : World) (g : Nat) : Prop := w.heap[g]? = some (.cells (tabA clsN) 174 (0, 0))
theorem Cls.nw {w w' : World} {g : Nat} (h : Cls w g) (ho : Nw w w') : Cls w' g := ho.at_ h
theorem Cls.cell {w : World} {g : Nat} (h : Cls w g) (b : UInt8) : w.cell? ⟨g, b.toNat, none⟩ = some (.int .u8 (clsN b.toNat : Int)) := by
  rw [cell_of_row _ _ _ _ _ _ h, get_tabA _ _ b.toNat_lt]
theorem begins_ok {w : World} {g : Nat} {t : List UInt8} {a : Nat} (hT : Cls w g) (ha : a ≤ t.length) (hl : t.length ≤ 16384) :
    Calls Tryz.prog 101 #[.pointer (some ⟨g, 0, none⟩), .string ⟨t.toArray⟩, .int .i64 a] w fun z w' => z = .returned (.int .i64 ((a + passB false (t.drop a) : Nat) : Int)) ∧ Nw w w' := by
  obtain ⟨n, hn⟩ : ∃ n, t.length = n := ⟨_, rfl⟩
  obtain ⟨e, he⟩ : ∃ e, a + passB false (t.drop a) = e := ⟨_, rfl⟩
  have HE := Lib.hid he
  have HTT := Lib.hid hT
  rw [he]
  clear he hT
  go_enter Tryz.func101, Tryz.ntmps101
  go_wp2_with fail
  go_step3
  go_wp2
  go_step3
  go_wp2
  go_loopw [2, 7] (fun v _ wr => ∃ k : Nat, k ≤ n ∧ v = .int .i64 k ∧ k + passB false (t.drop k) = e ∧ Nw w wr) (fun v _ _ => n - (intOf v).toNat)
  case atStart => exact ⟨a, by omega, rfl, HE.out, Nw.refl _⟩
  case round =>
    obtain ⟨k, hk, rfl, hke, hw⟩ := hrel
    have HKE := Lib.hid hke
    have HW := Lib.hid hw
    have HN := Lib.hid hn
    clear hke hw
    by_cases hkn : k < n
    · have q : decide ((k : Int) < (n : Int)) = true := by simp; omega
      have hsz : k < (⟨t.toArray⟩ : ByteArray).size := by rw [show (⟨t.toArray⟩ : ByteArray).size = t.length from by simp [ByteArray.size]]; omega
      obtain ⟨c, hc⟩ : ∃ c : UInt8, (⟨t.toArray⟩ : ByteArray)[k]'hsz = c := ⟨_, rfl⟩
      have hc256 : c.toNat < 256 := c.toNat_lt
      have HC := Lib.hid (show t.drop k = c :: t.drop (k + 1) by rw [List.drop_eq_getElem_cons (show k < t.length by omega), ← hc]; rfl)
      have z1 := (HTT.out.nw HW.out).cell c
      have d1 := cellG z1
      have HCL := Lib.hid (clsN_lt c.toNat)
      obtain ⟨x, hx⟩ : ∃ x, clsN c.toNat = x := ⟨_, rfl⟩
      have HX := Lib.hid hx
      rw [hx] at d1
      clear z1 hx
      by_cases c1 : x = 1
      · have hke : Hid (k + 1 + passB false (t.drop (k + 1)) = e) := by
          have h := HKE.out
          rw [HC.out, passB_blank (HX.out.trans c1)] at h
          exact Lib.hid (by omega)
        have q1 : ((x : Int) == 1) = true := by simp [c1]
        have w1 : IntKind.i64.wrap ((k : Int) + 1) = ((k + 1 : Nat) : Int) := by rw [← Int.natCast_one, ← Int.natCast_add]; exact IntWalk.i64_in _ (by omega)
        go_wp2_with fail
        refine wp_region_quiet_below (by kernel_rfl) (by kernel_rfl) ?_
        repeat (first | go_big_quiet_step (fail) | quiet_step (fail))
        refine wpQuiet_nil ?_
        intro w2 hw2
        have N2 := Lib.hid (Nw.of_regrown hw2)
        clear d1 hw2
        go_wp2_with fail
        refine ⟨⟨k + 1, by omega, by simp, hke.out, HW.out.trans N2.out⟩, by simp [intOf]; omega⟩
      have q1 : ((x : Int) == 1) = false := by simp; omega
      by_cases c2 : x = 2
      · have q2 : ((x : Int) == 2) = true := by simp [c2]
        have hke := HKE.out
        rw [HC.out, passB_remark (HX.out.trans c2), ← HC.out] at hke
        obtain ⟨y, hy⟩ : ∃ y, Lib.indexByte (t.drop k) 10 = y := ⟨_, rfl⟩
        have IB := Lib.hid (fun W => (Tryz.strings_IndexByte ((⟨t.toArray⟩ : ByteArray).extract k n) 10 W).mono (R' := fun z w' => z = .returned (.int .i64 y) ∧ w' = W) (by
          rintro z w' ⟨rfl, rfl⟩
          refine ⟨?_, rfl⟩
          rw [ByteArray.extract_mk, List.take_of_length_le (by simp; omega), ← hy]
          simp))
        have HY := Lib.hid hy
        have HKE2 := Lib.hid hke
        have hy1 := Lib.indexByte_ge (t.drop k) 10
        rw [hy] at hy1
        clear hke hy
        go_wp2_with fail
        refine wp_region_quiet_below (by kernel_rfl) (by kernel_rfl) ?_
        repeat (first | go_big_quiet_step (fail) | quiet_step (fail))
        refine wpQuiet_nil ?_
        intro w2 hw2
        have N2 := Lib.hid (Nw.of_regrown hw2)
        clear d1 hw2
        go_wp2_with fail
        refine (IB.out w2).mono ?_
        rintro z w3 ⟨rfl, rfl⟩
        clear IB
        by_cases c3 : y = -1
        · have q3 : decide (y < 0) = true := by simp; omega
          have hee : e = n := by
            have h := HKE2.out
            rw [passB_end _ (HY.out.trans c3), List.length_drop] at h
            omega
          subst c3
          clear q3 hy1
          go_wp2_with fail
          rw [Exit.noGoto_ret]
          go_ret
          exact ⟨by rw [hee]; rfl, HW.out.trans N2.out⟩
        · obtain ⟨j, rfl⟩ : ∃ j : Nat, y = j := ⟨y.toNat, by omega⟩
          have q3 : decide ((j : Int) < 0) = false := by simp
          have h2 := HKE2.out
          rw [passB_line j _ HY.out, List.drop_drop] at h2
          have H2 := Lib.hid h2
          have hj : 0 < j := by
            rcases Nat.eq_zero_or_pos j with rfl | h
            · exfalso
              have h := (Lib.indexByte_some (o := 0) HY.out).1
              rw [HC.out] at h
              have h1 := clsN_ten (HX.out.trans c2)
              rw [h1] at h
              simp at h
            · exact h
          have hjl : k + j < n := by
            have h := (Lib.indexByte_some HY.out).1
            rw [List.getElem?_drop] at h
            have := (List.getElem?_eq_some_iff.1 h).1
            have := HN.out
            omega
          have w1 : IntKind.i64.wrap ((k : Int) + (j : Int)) = ((k + j : Nat) : Int) := by rw [← Int.natCast_add]; exact IntWalk.i64_in _ (by omega)
          clear hy1 h2
          go_wp2_with fail
          refine ⟨⟨k + j, by omega, by simp, H2.out ▸ by omega, HW.out.trans N2.out⟩, by simp [intOf]; omega⟩
      have q2 : ((x : Int) == 2) = false := by simp; omega
      have hee : e = k := by
        have h := HKE.out
        rw [HC.out, passB_stop (by rw [HX.out]; exact c1) (by rw [HX.out]; exact c2)] at h
        omega
      go_wp2_with fail
      refine wp_region_quiet_below (by kernel_rfl) (by kernel_rfl) ?_
      repeat (first | go_big_quiet_step (fail) | quiet_step (fail))
      refine wpQuiet_nil ?_
      intro w2 hw2
      have N2 := Lib.hid (Nw.of_regrown hw2)
      clear d1 hw2
      go_wp2_with fail
      rw [Exit.noGoto_ret]
      go_ret
      exact ⟨by rw [hee]; rfl, HW.out.trans N2.out⟩
    · have q : decide ((k : Int) < (n : Int)) = false := by simp; omega
      have hee : e = k := by
        have h := HKE.out
        rw [List.drop_eq_nil_of_le (by omega)] at h
        simpa [passB] using h.symm
      go_wp2_with fail
      rw [Exit.noGoto_ret]
      go_ret
      exact ⟨by rw [hee]; rfl, HW.out⟩
theorem ends_ok {w : World} {g : Nat} {t : List UInt8} {a : Nat} (hT : Cls w g) (ha : a < t.length) (hl : t.length ≤ 16384) :
    Calls Tryz.prog 102 #[.pointer (some ⟨g, 0, none⟩), .string ⟨t.toArray⟩, .int .i64 a] w fun z w' => z = .returned (.int .i64 ((a + endB (t.drop a) : Nat) : Int)) ∧ Nw w w' := by
  obtain ⟨n, hn⟩ : ∃ n, t.length = n := ⟨_, rfl⟩
  obtain ⟨e, he⟩ : ∃ e, a + endB (t.drop a) = e := ⟨_, rfl⟩
  have hsa : a < (⟨t.toArray⟩ : ByteArray).size := by rw [show (⟨t.toArray⟩ : ByteArray).size = t.length from by simp [ByteArray.size]]; omega
  obtain ⟨c, hc⟩ : ∃ c : UInt8, (⟨t.toArray⟩ : ByteArray)[a]'hsa = c := ⟨_, rfl⟩
  have hc256 : c.toNat < 256 := c.toNat_lt
  have hdr : t.drop a = c :: t.drop (a + 1) := by rw [List.drop_eq_getElem_cons (show a < t.length by omega), ← hc]; rfl
  obtain ⟨x, hx⟩ : ∃ x, clsN c.toNat = x := ⟨_, rfl⟩
  have hxl := clsN_lt c.toNat
  rw [hx] at hxl
  have z1 := hT.cell c
  rw [hx] at z1
  have d1 := cellG z1
  have HTT := Lib.hid hT
  have HE := Lib.hid he
  have HN := Lib.hid hn
  have HC := Lib.hid hdr
  have HX := Lib.hid hx
  rw [he]
  have w1 : IntKind.i64.wrap ((a : Int) + 1) = ((a + 1 : Nat) : Int) := by rw [← Int.natCast_one, ← Int.natCast_add]; exact IntWalk.i64_in _ (by omega)
  clear he hT hdr hx z1
  by_cases c5 : x = 5
  · have q1 : ((x : Int) == 5) = true := by simp [c5]
    have w2 : IntKind.i64.wrap ((a : Int) + 2) = ((a + 2 : Nat) : Int) := IntWalk.i64_in _ (by omega)
    have w3 : IntKind.i64.wrap (((a + 1 : Nat) : Int) + 1) = ((a + 2 : Nat) : Int) := IntWalk.i64_in _ (by omega)
    obtain ⟨T2, hT2⟩ : ∃ T2, (t.drop a).take 2 = T2 := ⟨_, rfl⟩
    have hex : (⟨t.toArray⟩ : ByteArray).extract a (min ((a : Int) + 2) (n : Int)).toNat = ⟨T2.toArray⟩ := by
      rw [ByteArray.extract_mk, ← hT2]
      congr 2
      by_cases h : a + 2 ≤ n
      · rw [show (min ((a : Int) + 2) (n : Int)).toNat - a = 2 by omega]
      · rw [show (min ((a : Int) + 2) (n : Int)).toNat - a = n - a by omega, List.take_of_length_le (by simp; omega), List.take_of_length_le (by simp; omega)]
    have hE : Hid (endB (t.drop a) = if T2 = [45, 62] ∨ T2 = [61, 61] then 2 else 1) := by
      show endB (t.drop a) = _
      rw [HC.out, endB, if_pos (HX.out.trans c5), ← HC.out, hT2]
    have h45 : ∀ b : Bool, (T2 == [45, 62]) = b → ∀ b' : Bool, (T2 == [61, 61]) = b' → (e = if (b || b') then a + 2 else a + 1) := by
      intro b hb b' hb'
      rw [← HE.out, hE.out, ← hb, ← hb']
      by_cases h1 : T2 = [45, 62] <;> by_cases h2 : T2 = [61, 61] <;> simp [h1, h2]
    have H45 := Lib.hid h45
    clear h45 hT2
    obtain ⟨b, hb⟩ : ∃ b, (T2 == [45, 62]) = b := ⟨_, rfl⟩
    obtain ⟨b', hb'⟩ : ∃ b', (T2 == [61, 61]) = b' := ⟨_, rfl⟩
    have hee := H45.out b hb b' hb'
    cases b
    · cases b'
      · simp only [Bool.or_self, Bool.false_eq_true, if_false] at hee
        go_enter Tryz.func102, Tryz.ntmps102
        go_wp2_with fail
        refine wp_region_quiet_below (by kernel_rfl) (by kernel_rfl) ?_
        repeat (first | go_big_quiet_step (fail) | quiet_step (fail))
        refine wpQuiet_nil ?_
        intro w2' hw2
        have N2 := Lib.hid (Nw.of_regrown hw2)
        clear d1 hw2
        go_wp2_with fail
        go_ret
        exact ⟨by rw [hee]; rfl, N2.out⟩
      · simp only [Bool.or_true, if_true] at hee
        go_enter Tryz.func102, Tryz.ntmps102
        go_wp2_with fail
        refine wp_region_quiet_below (by kernel_rfl) (by kernel_rfl) ?_
        repeat (first | go_big_quiet_step (fail) | quiet_step (fail))
        refine wpQuiet_nil ?_
        intro w2' hw2
        have N2 := Lib.hid (Nw.of_regrown hw2)
        clear d1 hw2
        go_wp2_with fail
        go_ret
        exact ⟨by rw [hee]; rfl, N2.out⟩
    · simp only [Bool.true_or, if_true] at hee
      go_enter Tryz.func102, Tryz.ntmps102
      go_wp2_with fail
      refine wp_region_quiet_below (by kernel_rfl) (by kernel_rfl) ?_
      repeat (first | go_big_quiet_step (fail) | quiet_step (fail))
      refine wpQuiet_nil ?_
      intro w2' hw2
      have N2 := Lib.hid (Nw.of_regrown hw2)
      clear d1 hw2
      go_wp2_with fail
      go_ret
      exact ⟨by rw [hee]; rfl, N2.out⟩
  have q1 : ((x : Int) == 5) = false := by simp; omega
  go_enter Tryz.func102, Tryz.ntmps102
  go_wp2_with fail
  refine wp_region_quiet_below (by kernel_rfl) (by kernel_rfl) ?_
  repeat (first | go_big_quiet_step (fail) | quiet_step (fail))
  refine wpQuiet_nil ?_
  intro w2' hw2
  have N2 := Lib.hid (Nw.of_regrown hw2)
  clear d1 hw2
  have hE : endB (t.drop a) = 1 + ((t.drop (a + 1)).takeWhile (more4 c)).length := by
    rw [HC.out, endB, if_neg (by rw [HX.out]; exact c5)]
  have HE1 : Hid (a + 1 + ((t.drop (a + 1)).takeWhile (more4 c)).length = e) := Lib.hid (by rw [← HE.out, hE]; omega)
  clear hE
  go_wp2_with fail
  go_loopw [8] (fun v wr => ∃ i : Nat, i ≤ n ∧ v = .int .i64 i ∧ i + ((t.drop i).takeWhile (more4 c)).length = e ∧ Nw w wr) (fun v _ => n - (intOf v).toNat)
  case atStart => exact ⟨a + 1, by omega, by simp, HE1.out, N2.out⟩
  case round =>
    obtain ⟨i, hin, rfl, hie, hw⟩ := hrel
    have HW := Lib.hid hw
    have HIE := Lib.hid hie
    clear hw hie hc hc256 w1 q1
    by_cases hkn : i < n
    · have q : decide ((i : Int) < (n : Int)) = true := by simp; omega
      have hsi : i < (⟨t.toArray⟩ : ByteArray).size := by rw [show (⟨t.toArray⟩ : ByteArray).size = t.length from by simp [ByteArray.size]]; omega
      obtain ⟨d, hd⟩ : ∃ d : UInt8, (⟨t.toArray⟩ : ByteArray)[i]'hsi = d := ⟨_, rfl⟩
      have hd256 : d.toNat < 256 := d.toNat_lt
      have hdi : t.drop i = d :: t.drop (i + 1) := by rw [List.drop_eq_getElem_cons (show i < t.length by omega), ← hd]; rfl
      obtain ⟨y, hy⟩ : ∃ y, clsN d.toNat = y := ⟨_, rfl⟩
      have z1 := (HTT.out.nw HW.out).cell d
      rw [hy] at z1
      have d1 := cellG z1
      have HY := Lib.hid hy
      have hstep : Hid (more4 c d = true → i + 1 + ((t.drop (i + 1)).takeWhile (more4 c)).length = e) := Lib.hid fun hm => by
        have := HIE.out
        rw [hdi, List.takeWhile_cons, if_pos hm, List.length_cons] at this
        omega
      have hstop : Hid (more4 c d = false → e = i) := Lib.hid fun hm => by
        have := HIE.out
        rw [hdi, List.takeWhile_cons, if_neg (by rw [hm]; simp)] at this
        simpa using this.symm
      have w1 : IntKind.i64.wrap ((i : Int) + 1) = ((i + 1 : Nat) : Int) := by rw [← Int.natCast_one, ← Int.natCast_add]; exact IntWalk.i64_in _ (by omega)
      clear z1 hy hdi
      by_cases y3 : y = 3
      · have q3 : ((y : Int) == 3) = true := by simp; omega
        go_wp2_with fail
        refine wp_region_quiet_below (by kernel_rfl) (by kernel_rfl) ?_
        repeat (first | go_big_quiet_step (fail) | quiet_step (fail))
        refine wpQuiet_nil ?_
        intro w3 hw3
        have N3 := Lib.hid (Nw.of_regrown hw3)
        clear hw3
        go_wp2_with fail
        refine ⟨⟨i + 1, by omega, by simp, ?_, HW.out.trans N3.out⟩, by simp [intOf]; omega⟩
        exact hstep.out (by simp only [more4, HY.out, HX.out]; simp; omega)
      have q3 : ((y : Int) == 3) = false := by simp; omega
      by_cases y4 : y = 4
      · have q4 : ((y : Int) == 4) = true := by simp; omega
        by_cases x4 : x = 4
        · have q5 : ((x : Int) == 4) = true := by simp; omega
          go_wp2_with fail
          refine wp_region_quiet_below (by kernel_rfl) (by kernel_rfl) ?_
          repeat (first | go_big_quiet_step (fail) | quiet_step (fail))
          refine wpQuiet_nil ?_
          intro w3 hw3
          have N3 := Lib.hid (Nw.of_regrown hw3)
          clear hw3
          go_wp2_with fail
          refine ⟨⟨i + 1, by omega, by simp, ?_, HW.out.trans N3.out⟩, by simp [intOf]; omega⟩
          exact hstep.out (by simp only [more4, HY.out, HX.out]; simp; omega)
        have q5 : ((x : Int) == 4) = false := by simp; omega
        go_wp2_with fail
        refine wp_region_quiet_below (by kernel_rfl) (by kernel_rfl) ?_
        repeat (first | go_big_quiet_step (fail) | quiet_step (fail))
        refine wpQuiet_nil ?_
        intro w3 hw3
        have N3 := Lib.hid (Nw.of_regrown hw3)
        clear hw3
        go_wp2_with fail
        go_ret
        have he2 : e = i := hstop.out (by simp only [more4, HY.out, HX.out]; simp; omega)
        exact ⟨by rw [he2]; rfl, HW.out.trans N3.out⟩
      · have q4 : ((y : Int) == 4) = false := by simp; omega
        go_wp2_with fail
        refine wp_region_quiet_below (by kernel_rfl) (by kernel_rfl) ?_
        repeat (first | go_big_quiet_step (fail) | quiet_step (fail))
        refine wpQuiet_nil ?_
        intro w3 hw3
        have N3 := Lib.hid (Nw.of_regrown hw3)
        clear hw3
        go_wp2_with fail
        go_ret
        have he2 : e = i := hstop.out (by simp only [more4, HY.out, HX.out]; simp; omega)
        exact ⟨by rw [he2]; rfl, HW.out.trans N3.out⟩
    · have q : decide ((i : Int) < (n : Int)) = false := by simp; omega
      have he2 : e = i := by
        have h := HIE.out
        rw [List.drop_eq_nil_of_le (by omega)] at h
        simpa using h.symm
      go_wp2_with fail
      refine wp_region_quiet_below (by kernel_rfl) (by kernel_rfl) ?_
      repeat (first | go_big_quiet_step (fail) | quiet_step (fail))
      refine wpQuiet_nil ?_
      intro w3 hw3
      have N3 := Lib.hid (Nw.of_regrown hw3)
      clear hw3
      go_wp2_with fail
      go_ret
      exact ⟨by rw [he2]; rfl, HW.out.trans N3.out⟩
theorem number_ok {w : World} {t : List UInt8} (hl : t.length ≤ 16384) (hd : ∀ b ∈ t, 48 ≤ b.toNat ∧ b.toNat ≤ 57) :
    Calls Tryz.prog 103 #[.string ⟨t.toArray⟩] w fun z w' => z = .returned (match numGo t 0 with | some n => .tuple #[.int .i64 n, .bool true] | .none => .tuple #[.int .i64 0, .bool false]) ∧ Nw w w' := by
  obtain ⟨n, hn⟩ : ∃ n, t.length = n := ⟨_, rfl⟩
  obtain ⟨R, hR⟩ : ∃ R, numGo t 0 = R := ⟨_, rfl⟩
  rw [hR]
  have cv := Lib.run_convert_string_bytes (P := Tryz.prog) w 9 59 5 ⟨t.toArray⟩ Tryz.underlying9 Tryz.underlying59 Tryz.underlying5
  obtain ⟨hv, hnw⟩ := Vec.of_conv w 5 t (by unfold maxLen; omega)
  obtain ⟨wc, hwc⟩ : ∃ wc, Lib.bytesWorld w 5 ⟨t.toArray⟩ = wc := ⟨_, rfl⟩
  rw [hwc] at cv hv hnw
  have hts : (⟨t.toArray⟩ : ByteArray).size = t.length := by simp [ByteArray.size]
  rw [hts] at cv
  have hcells : Hid (∀ j (hj : j < t.length), wc.cell? ⟨w.heap.size, 0 + j, none⟩ = some (.int .u8 (t[j].toNat : Int))) := Lib.hid fun j hj => by
    obtain ⟨-, ⟨e, -⟩ | ⟨g, o, cap, e, -, -, -, -, -, h6⟩⟩ := hv
    · cases e
    · cases e
      have := h6 j (by simpa using hj)
      simpa using this
  have HC := Lib.hid hnw
  have HR := Lib.hid hR
  have HV := Lib.hid hv
  clear hnw hwc hv hR hts
  rw [hn] at cv
  go_enter Tryz.func103, Tryz.ntmps103
  go_wp2_with fail
  go_loopw [4, 11] (fun mv jv wr => ∃ (j : Nat) (m : Int), j ≤ n ∧ mv = .int .i64 m ∧ jv = .int .i64 j ∧ 0 ≤ m ∧ m < 9223372036854775808 ∧ numGo (t.drop j) m = R ∧ Nw wc wr) (fun _ jv _ => n - (intOf jv).toNat)
  case atStart => exact ⟨0, 0, by omega, rfl, rfl, by omega, by omega, HR.out, Nw.refl _⟩
  case round =>
    obtain ⟨j, m, hj, rfl, rfl, hm0, hm1, hnum, hw⟩ := hrel
    have HW := Lib.hid hw
    have HNU := Lib.hid hnum
    clear hw hnum cv
    by_cases hjn : j < n
    · have q : decide ((j : Int) < (n : Int)) = true := by simp; omega
      obtain ⟨c, hc⟩ : ∃ c : UInt8, t[j]'(by omega) = c := ⟨_, rfl⟩
      have z1 := HW.out.cell (hcells.out j (by omega))
      rw [hc, Nat.zero_add] at z1
      obtain ⟨d1, d2⟩ := hd c (by rw [← hc]; exact List.getElem_mem _)
      obtain ⟨D, hD⟩ : ∃ D : Nat, (c - 48).toNat = D := ⟨_, rfl⟩
      have hDc : (c.toNat : Int) - 48 = (D : Int) := by
        rw [← hD, UInt8.toNat_sub_of_le _ _ (by rw [UInt8.le_iff_toNat_le]; exact d1)]
        simp; omega
      have hD9 : D ≤ 9 := by omega
      have hst := HNU.out
      rw [List.drop_eq_getElem_cons (by omega), hc, numGo, hD] at hst
      have w1 : IntKind.u8.wrap ((c.toNat : Int) - 48) = (D : Int) := by rw [hDc, IntKind.wrap_u8]; omega
      obtain ⟨y, hy⟩ : ∃ y : Int, (9223372036854775807 - (D : Int)) / 10 = y := ⟨_, rfl⟩
      have hyt : (9223372036854775807 - (D : Int)).tdiv 10 = y := by rw [Int.tdiv_eq_ediv_of_nonneg (by omega), hy]
      rw [hy] at hst
      have w2 : IntKind.i64.wrap (9223372036854775807 - (D : Int)) = 9223372036854775807 - (D : Int) := IntWalk.i64_in _ (by omega)
      have w5 : IntKind.i64.wrap (D : Int) = (D : Int) := IntWalk.i64_in _ (by omega)
      have hyb : y ≤ 922337203685477580 ∧ 0 ≤ y ∧ y * 10 + D ≤ 9223372036854775807 := by omega
      have w3 : IntKind.i64.wrap y = y := IntWalk.i64_in _ (by omega)
      clear hDc hD hy hc d1 d2
      by_cases hgt : m > y
      · have q2 : decide (y < m) = true := by simp; omega
        rw [if_pos hgt] at hst
        subst hst
        go_wp2_with fail
        refine bodyPost_ret (v := .tuple #[.int .i64 0, .bool false]) (by simp [results, Tryz.results103, go_sem]) rfl ⟨rfl, HC.out.trans HW.out⟩
      · have q2 : decide (y < m) = false := by simp; omega
        rw [if_neg hgt] at hst
        have w4 : IntKind.i64.wrap (m * 10) = m * 10 := IntWalk.i64_in _ (by omega)
        have w6 : IntKind.i64.wrap (m * 10 + (D : Int)) = m * 10 + (D : Int) := IntWalk.i64_in _ (by omega)
        have HST := Lib.hid hst
        clear hst
        go_wp2_with fail
        refine ⟨⟨j + 1, _, by omega, rfl, by simp, by omega, by omega, HST.out, HW.out⟩, by simp [intOf]; omega⟩
    · have q : decide ((j : Int) < (n : Int)) = false := by simp; omega
      have hst := HNU.out
      rw [List.drop_eq_nil_of_le (by omega), numGo] at hst
      subst hst
      go_wp2_with fail
      refine bodyPost_ret (v := .tuple #[.int .i64 m, .bool true]) (by simp [results, Tryz.results103, go_sem]) rfl ⟨rfl, HC.out.trans HW.out⟩
end Go.Proofs.YtcmaedoolinijaaGreatDoor
