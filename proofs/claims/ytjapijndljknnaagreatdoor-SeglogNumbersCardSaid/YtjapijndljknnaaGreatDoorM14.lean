/-
  Texts merged by a program of this claim's: Segs, LogB, Mix.
-/
import Derived.Test.YtjapijndljknnaaGreatDoorM13
import Derived.Lib.ItoaLen
import Derived.Test.YtjapijndljknnaaGreatDoorM6
/-
  Names of segments; lists of pieces that grow at their end (plain words).
-/
namespace Go.Proofs.YtjapijndljknnaaGreatDoor
open Go

/-! ### Names -/
def valD (l : List UInt8) : Nat := l.foldl (fun a c => a * 10 + (c.toNat - 48)) 0
theorem valD_dec (u : Nat) : valD (Lib.decDigits u) = u := by
  induction u using Nat.strongRecOn with
  | _ u ih =>
    rw [Lib.decDigits]
    split
    · rename_i h
      simp only [valD, List.foldl_cons, List.foldl_nil, UInt8.toNat_ofNat']
      omega
    · rename_i h
      have := ih (u / 10) (by omega)
      simp only [valD, List.foldl_append, List.foldl_cons, List.foldl_nil, UInt8.toNat_ofNat'] at this ⊢
      rw [this]
      omega
theorem dec_char (u : Nat) : ∀ c ∈ Lib.decDigits u, okChar c = true := by
  induction u using Nat.strongRecOn with
  | _ u ih =>
    have key : ∀ d, d < 10 → okChar (UInt8.ofNat (48 + d)) = true := by decide
    rw [Lib.decDigits]
    split
    · rename_i h
      intro c hc
      rw [List.mem_singleton] at hc
      subst hc
      exact key u h
    · rename_i h
      intro c hc
      rcases List.mem_append.1 hc with hc | hc
      · exact ih (u / 10) (by omega) c hc
      · rw [List.mem_singleton] at hc
        subst hc
        exact key _ (by omega)
theorem segName_inj {a b : Nat} (h : segName a = segName b) : a = b := by
  unfold segName at h
  rw [← valD_dec a, ← valD_dec b, (List.cons.inj h).2]
theorem segName_ok {n : Nat} (h : n < 2 ^ 64) : okPiece (segName n) = true := by
  have hl := Lib.nDigits_le20 n (by omega)
  have hd := Lib.decDigits_length n
  have h1 : okName (segName n) = true := by
    unfold okName segName
    simp only [List.isEmpty_cons, Bool.not_false, Bool.true_and, List.length_cons, List.all_cons, Bool.and_eq_true, decide_eq_true_eq]
    refine ⟨by omega, by decide, List.all_eq_true.2 (dec_char n)⟩
  have h2 : segName n ≠ manifestS := fun h => absurd (List.cons.inj h).1 (by decide)
  have h3 : segName n ≠ nextS := fun h => absurd (List.cons.inj h).1 (by decide)
  simp [okPiece, h1, h2, h3]
theorem okPiece_name {s : Str} (h : okPiece s = true) : okName s = true ∧ s ≠ manifestS ∧ s ≠ nextS := by
  simp only [okPiece, Bool.and_eq_true, decide_eq_true_eq] at h
  exact ⟨h.1.1, h.1.2, h.2⟩

/-! ### Pieces -/
def sealedFrom : List Str → Int → List Pc → Bool
  | _, _, [] => true
  | seen, first, p :: l => (okPiece p.name && !decide (p.name ∈ seen) && decide (p.first = first) && decide (1 ≤ p.count) && decide (p.count ≤ 1099511627776)) && sealedFrom (p.name :: seen) (first + p.count) l
def endOf (first : Int) : List Pc → Int
  | [] => first
  | p :: l => endOf (first + p.count) l
theorem endOf_snoc (p : Pc) : ∀ (l : List Pc) (first : Int), endOf first (l ++ [p]) = endOf first l + p.count
  | [], _ => rfl
  | _q :: l, _first => endOf_snoc p l _
theorem rightFrom_snoc (p : Pc) : ∀ (l : List Pc) (seen : List Str) (first : Int), rightFrom seen first (l ++ [p]) = true ↔
    sealedFrom seen first l = true ∧ okPiece p.name = true ∧ p.name ∉ seen ∧ p.name ∉ l.map Pc.name ∧ p.first = endOf first l ∧ p.count = 0 ∧ p.dense = false
  | [], seen, first => by
    simp only [List.nil_append, rightFrom, sealedFrom, endOf, List.map_nil, Bool.and_eq_true, decide_eq_true_eq, Bool.not_eq_true', decide_eq_false_iff_not, if_true]
    simp only [List.not_mem_nil, not_false_eq_true, true_and, and_true]
    constructor
    · rintro ⟨⟨⟨a, b⟩, c⟩, d, e⟩; exact ⟨a, b, c, d, e⟩
    · rintro ⟨a, b, c, d, e⟩; exact ⟨⟨⟨a, b⟩, c⟩, d, e⟩
  | q :: l, seen, first => by
    have ih := rightFrom_snoc p l (q.name :: seen) (first + q.count)
    have hne : l ++ [p] ≠ [] := by simp
    simp only [List.cons_append, rightFrom, sealedFrom, endOf, List.map_cons, Bool.and_eq_true, decide_eq_true_eq, Bool.not_eq_true', decide_eq_false_iff_not, if_neg hne, ih, List.mem_cons, not_or]
    constructor
    · rintro ⟨⟨⟨⟨a, b⟩, c⟩, d, e⟩, f, g, ⟨h, i⟩, j, k⟩
      exact ⟨⟨⟨⟨⟨⟨a, b⟩, c⟩, d⟩, e⟩, f⟩, g, i, ⟨h, j⟩, k⟩
    · rintro ⟨⟨⟨⟨⟨⟨a, b⟩, c⟩, d⟩, e⟩, f⟩, g, i, ⟨h, j⟩, k⟩
      exact ⟨⟨⟨⟨a, b⟩, c⟩, d, e⟩, f, g, ⟨h, i⟩, j, k⟩
theorem sealedFrom_snoc (p : Pc) : ∀ (l : List Pc) (seen : List Str) (first : Int), sealedFrom seen first (l ++ [p]) = true ↔
    sealedFrom seen first l = true ∧ okPiece p.name = true ∧ p.name ∉ seen ∧ p.name ∉ l.map Pc.name ∧ p.first = endOf first l ∧ 1 ≤ p.count ∧ p.count ≤ 1099511627776
  | [], seen, first => by
    simp only [List.nil_append, sealedFrom, endOf, List.map_nil, Bool.and_eq_true, decide_eq_true_eq, Bool.not_eq_true', decide_eq_false_iff_not]
    simp only [List.not_mem_nil, not_false_eq_true, true_and, and_true]
    constructor
    · rintro ⟨⟨⟨⟨a, b⟩, c⟩, d⟩, e⟩; exact ⟨a, b, c, d, e⟩
    · rintro ⟨a, b, c, d, e⟩; exact ⟨⟨⟨⟨a, b⟩, c⟩, d⟩, e⟩
  | q :: l, seen, first => by
    have ih := sealedFrom_snoc p l (q.name :: seen) (first + q.count)
    simp only [List.cons_append, sealedFrom, endOf, List.map_cons, Bool.and_eq_true, decide_eq_true_eq, Bool.not_eq_true', decide_eq_false_iff_not, ih, List.mem_cons, not_or]
    constructor
    · rintro ⟨⟨⟨⟨⟨a, b⟩, c⟩, d⟩, e⟩, f, g, ⟨h, i⟩, j, k⟩
      exact ⟨⟨⟨⟨⟨⟨a, b⟩, c⟩, d⟩, e⟩, f⟩, g, i, ⟨h, j⟩, k⟩
    · rintro ⟨⟨⟨⟨⟨⟨a, b⟩, c⟩, d⟩, e⟩, f⟩, g, i, ⟨h, j⟩, k⟩
      exact ⟨⟨⟨⟨⟨a, b⟩, c⟩, d⟩, e⟩, f, g, ⟨h, i⟩, j, k⟩
theorem lastP_snoc (l : List Pc) (p : Pc) : lastP (l ++ [p]) = p := by simp [lastP]
theorem split_last {l : List Pc} (h : l ≠ []) : l = l.dropLast ++ [lastP l] := by
  have e : lastP l = l.getLast h := by simp [lastP, List.getLastD_eq_getLast?, List.getLast?_eq_some_getLast h]
  rw [e]; exact (List.dropLast_concat_getLast h).symm
structure RightP (A : List Pc) (p : Pc) : Prop where
  few : A.length < 100
  sealed_ : sealedFrom [] 0 A = true
  name : okPiece p.name = true
  apart : p.name ∉ A.map Pc.name
  first : p.first = endOf 0 A
  count : p.count = 0
  dense : p.dense = false
theorem rightL_iff (A : List Pc) (p : Pc) : rightL (A ++ [p]) = true ↔ RightP A p := by
  simp only [rightL, Bool.and_eq_true, decide_eq_true_eq, rightFrom_snoc, List.length_append, List.length_singleton]
  constructor
  · rintro ⟨⟨-, h1⟩, h2, h3, -, h4, h5, h6, h7⟩
    exact ⟨by omega, h2, h3, h4, h5, h6, h7⟩
  · rintro ⟨h1, h2, h3, h4, h5, h6, h7⟩
    exact ⟨⟨by omega, by omega⟩, h2, h3, by simp, h4, h5, h6, h7⟩
theorem sealed_end : ∀ (l : List Pc) (seen : List Str) (first : Int), sealedFrom seen first l = true → first ≤ endOf first l ∧ ∀ p ∈ l, first ≤ p.first ∧ p.first < endOf first l
  | [], _, _, _ => ⟨Int.le_refl _, fun _ h => by cases h⟩
  | q :: l, seen, first, h => by
    simp only [sealedFrom, Bool.and_eq_true, decide_eq_true_eq] at h
    obtain ⟨⟨⟨⟨-, h2⟩, h3⟩, h4⟩, h5⟩ := h
    obtain ⟨i1, i2⟩ := sealed_end l _ _ h5
    simp only [endOf]
    refine ⟨by omega, fun p hp => ?_⟩
    rcases List.mem_cons.1 hp with rfl | hp
    · omega
    · have := i2 p hp; omega
end Go.Proofs.YtjapijndljknnaaGreatDoor

/-
  seglog.Right, walked.
-/
namespace Go.Proofs.YtjapijndljknnaaGreatDoor
open Go Go.RowKit Go.Sort
set_option maxRecDepth 100000
set_option maxHeartbeats 1600000

def pcV (p : Pc) : List Value := [.string ⟨p.name.toArray⟩, .int .i64 p.first, .int .i64 p.count, .bool p.dense]
structure Pc.Ok (p : Pc) : Prop where
  name : p.name.length ≤ 9223372036854775807
  first : in64 p.first
  count : in64 p.count
/-- Pieces that can be read: four cells each. -/
structure Pcs (w : World) (v : Value) (l : List Pc) : Prop where
  src : SrcV 4 w v l.length (l.flatMap pcV)
  ok : ∀ p ∈ l, p.Ok
theorem flat_pc : ∀ (l : List Pc) (i : Nat) (h : i < l.length) (j : Nat) (_hj : j < 4), (l.flatMap pcV)[i * 4 + j]? = (pcV l[i])[j]?
  | e :: l, 0, _, j, hj => by
    rw [List.flatMap_cons, Nat.zero_mul, Nat.zero_add, List.getElem?_append_left (by simpa [pcV] using hj)]; rfl
  | e :: l, i + 1, h, j, hj => by
    have ih := flat_pc l i (by simpa using h) j hj
    rw [List.flatMap_cons, List.getElem?_append_right (by simp [pcV]; omega), show (i + 1) * 4 + j - (pcV e).length = i * 4 + j by simp [pcV]; omega, ih]
    rfl
theorem Pcs.nw {w w' : World} {v : Value} {l : List Pc} (h : Pcs w v l) (hw : Nw w w') : Pcs w' v l := ⟨h.src.nw hw, h.ok⟩
theorem Pcs.elem {w : World} {v : Value} {l : List Pc} (h : Pcs w v l) : ∃ a cap, v = .slice a l.length cap ∧ l.length ≤ cap ∧ cap ≤ maxLen ∧ ∀ i (hi : i < l.length), ∃ g o, a = some ⟨g, o, none⟩ ∧ g < w.heap.size ∧
    w.cell? ⟨g, o + i * 4, none⟩ = some (.string ⟨l[i].name.toArray⟩) ∧ w.cell? ⟨g, o + i * 4 + 1, none⟩ = some (.int .i64 l[i].first) ∧ w.cell? ⟨g, o + i * 4 + 2, none⟩ = some (.int .i64 l[i].count) ∧
    w.cell? ⟨g, o + i * 4 + 3, none⟩ = some (.bool l[i].dense) := by
  obtain ⟨⟨h0, ⟨a, rfl, hn⟩ | ⟨g, o, cap, rfl, h1, h2, h3, h4⟩⟩, -⟩ := h
  · exact ⟨a, 0, by rw [hn], by simp [hn], by simp, fun i hi => by omega⟩
  · refine ⟨_, cap, rfl, h1, h2, fun i hi => ⟨g, o, rfl, h3, ?_⟩⟩
    have key : ∀ j (hj : j < 4), w.cell? ⟨g, o + i * 4 + j, none⟩ = (pcV l[i])[j]? := fun j hj => by
      have e := flat_pc l i hi j hj
      have hlt : i * 4 + j < (l.flatMap pcV).length := by rw [h0]; omega
      have := h4 (i * 4 + j) hlt
      rw [← Nat.add_assoc] at this
      rw [this, ← e, List.getElem?_eq_getElem hlt]
    exact ⟨key 0 (by omega), key 1 (by omega), key 2 (by omega), key 3 (by omega)⟩

/-- The map 'seen' at a round: the names so far, once each. -/
structure Seen (w : World) (m : Nat) (names : List Str) : Prop where
  map : ∃ L clock, w.heap[m]? = some (.map (ents L) clock) ∧ (L.map En.key) = names ∧ ∀ e ∈ L, e.val = .int .i64 1

theorem zeroInt (w : World) : (zeroValue 3).run Tryz.prog w = .ok (.int .i64 0) w := by kernel_rfl
/-- A round's 'seen[p.Name]++'. -/
theorem seen_step {w W1 : World} {m bp : Nat} {names : List Str} {t : TypeId} {cs : Array Value} (h : Seen W1 m names) (_hd : names.Nodup) (n : Str) (hw : Nw w W1) (hm : w.heap.size ≤ m) (hb : W1.heap[bp]? = some (.cells cs t (0, 0))) :
    ∃ (x : Int) (W2 : World), (Instr.lookup 30 (.map (some m)) (.string ⟨n.toArray⟩) false).run Tryz.prog W1 = .ok (.int .i64 x) W1 ∧
      (Instr.mapUpdate 30 (.map (some m)) (.string ⟨n.toArray⟩) (.int .i64 (x + 1))).run Tryz.prog W1 = .ok () W2 ∧
      (∀ W3, Nw W2 W3 → (Instr.lookup 30 (.map (some m)) (.string ⟨n.toArray⟩) false).run Tryz.prog W3 = .ok (.int .i64 (x + 1)) W3) ∧
      Nw w W2 ∧ W2.heap[bp]? = some (.cells cs t (0, 0)) ∧ ((n ∈ names ∧ x = 1) ∨ (n ∉ names ∧ x = 0 ∧ Seen W2 m (names ++ [n]))) := by
  obtain ⟨L, clock, hmap, hk, hv⟩ := h.map
  have hbm : bp ≠ m := fun e => by subst e; rw [hmap] at hb; cases hb
  have ht := Tryz.underlying30
  have hs := Tryz.underlying9
  rcases split_key n L with hn | ⟨A, e, B, rfl, he, hA⟩
  · have hn' : n ∉ names := by rw [← hk]; exact hn
    have hW2 : (World.setBlk W1 m (.map (ents (L ++ [⟨n, .int .i64 (0 + 1), clock⟩])) (clock + 1))).heap[m]? = some (.map (ents (L ++ [⟨n, .int .i64 (0 + 1), clock⟩])) (clock + 1)) := setBlk_same hmap
    refine ⟨0, _, run_look_miss ht hs (zeroInt _) hmap hn, run_store_miss ht hs hmap hn _, fun W3 h3 => ?_, Only.setBlk hw (fun h => by omega) _, by rw [setBlk_other hbm]; exact hb, .inr ⟨hn', rfl, ⟨_, _, hW2, ?_, ?_⟩⟩⟩
    · exact run_look_hit (A := L) (B := []) (e := ⟨n, .int .i64 (0 + 1), clock⟩) ht hs (h3.at_ hW2) rfl hn
    · simp [hk]
    · intro e he
      rcases List.mem_append.1 he with he | he
      · exact hv e he
      · rw [List.mem_singleton] at he; subst he; rfl
  · have hn' : n ∈ names := by rw [← hk, ← he]; simp
    have h1 : e.val = .int .i64 1 := hv e (by simp)
    have hl := run_look_hit (P := Tryz.prog) ht hs hmap he hA
    rw [h1] at hl
    have hW2 : (World.setBlk W1 m (.map (ents (A ++ ⟨n, .int .i64 (1 + 1), e.born⟩ :: B)) clock)).heap[m]? = some (.map (ents (A ++ ⟨n, .int .i64 (1 + 1), e.born⟩ :: B)) clock) := setBlk_same hmap
    refine ⟨1, _, hl, run_store_hit ht hs hmap he hA _, fun W3 h3 => ?_, Only.setBlk hw (fun h => by omega) _, by rw [setBlk_other hbm]; exact hb, .inl ⟨hn', rfl⟩⟩
    exact run_look_hit (A := A) (B := B) (e := ⟨n, .int .i64 (1 + 1), e.born⟩) ht hs (h3.at_ hW2) rfl hA

theorem rightFrom_at {l : List Pc} {k : Nat} (h : k < l.length) (seen : List Str) (f : Int) : rightFrom seen f (l.drop k) =
    (okPiece l[k].name && !decide (l[k].name ∈ seen) && decide (l[k].first = f) && (if k + 1 = l.length then decide (l[k].count = 0) && !l[k].dense else decide (1 ≤ l[k].count) && decide (l[k].count ≤ 1099511627776)) && rightFrom (l[k].name :: seen) (f + l[k].count) (l.drop (k + 1))) := by
  rw [List.drop_eq_getElem_cons h]
  simp only [rightFrom]
  by_cases hk : k + 1 = l.length
  · rw [if_pos (by rw [hk]; simp), if_pos hk]
  · rw [if_neg (by simp; omega), if_neg hk]

theorem Right_ok {w : World} {v : Value} {l : List Pc} (hv : Pcs w v l) :
    Calls Tryz.prog 16 #[v] w fun e w' => e = .returned (.bool (rightL l)) ∧ Nw w w' := by
  obtain ⟨a, cap, rfl, hc, hm, hel⟩ := hv.elem
  have HE := Lib.hid hel
  have HO := Lib.hid hv.ok
  clear hel hv
  by_cases h1 : l.length < 1
  · have r : Hid (rightL l = false) := Lib.hid (by unfold rightL; rw [decide_eq_false (by omega)]; rfl)
    go_enter Tryz.func16, Tryz.ntmps16
    go_wp2
    go_ret
    exact ⟨by rw [r.out]; rfl, Nw.refl _⟩
  by_cases h2 : 100 < l.length
  · have r : Hid (rightL l = false) := Lib.hid (by unfold rightL; rw [decide_eq_false (show ¬ l.length ≤ 100 by omega)]; simp)
    go_enter Tryz.func16, Tryz.ntmps16
    go_wp2
    go_ret
    exact ⟨by rw [r.out]; rfl, Nw.refl _⟩
  have R : Hid (rightL l = rightFrom [] 0 l) := Lib.hid (by unfold rightL; rw [decide_eq_true (show 1 ≤ l.length by omega), decide_eq_true (show l.length ≤ 100 by omega)]; rfl)
  obtain ⟨n, hn⟩ : ∃ n, l.length = n := ⟨_, rfl⟩
  have HN := Lib.hid hn
  rw [hn] at h1 h2 hc ⊢
  clear hn
  have hmm := @run_makeMap Tryz.prog
  go_enter Tryz.func16, Tryz.ntmps16
  go_wp2
  go_loopw [3, 19] (fun f i wr => ∃ (k : Nat) (fi : Int), k ≤ n ∧ i = .int .i64 k ∧ f = .int .i64 fi ∧ 0 ≤ fi ∧ fi ≤ 1099511627776 * k ∧ rightFrom [] 0 l = rightFrom ((l.take k).map Pc.name).reverse fi (l.drop k) ∧ ((l.take k).map Pc.name).Nodup ∧ Seen wr w.heap.size ((l.take k).map Pc.name) ∧ Nw w wr) (fun _ i _ => n - (intOf i).toNat)
  case atStart => exact ⟨0, 0, by omega, rfl, rfl, by omega, by omega, rfl, by simp, ⟨[], 0, heap_alloc_new w _, by simp, by simp⟩, (Nw.refl w).alloc _⟩
  case round =>
    obtain ⟨k, fi, hk, rfl, rfl, hf0, hf1, hr, hd, hs, hw⟩ := hrel
    clear hmm
    by_cases hlt : k < n
    · have hkl : k < l.length := by rw [HN.out]; exact hlt
      obtain ⟨g, o, rfl, hg, c0, c1, c2, c3⟩ := HE.out k hkl
      have d0 := hw.cell c0
      have d1 := hw.cell c1
      have d2 := hw.cell c2
      have d3 := hw.cell c3
      have hg' := Nat.lt_of_lt_of_le hg hw.size
      have hat := rightFrom_at hkl ((l.take k).map Pc.name).reverse fi
      rw [← hr] at hat
      have hsn : (l.take (k + 1)).map Pc.name = (l.take k).map Pc.name ++ [l[k].name] := by rw [List.take_succ_eq_append_getElem hkl, List.map_append]; rfl
      have HOK : Hid (l[k] : Pc).Ok := Lib.hid (HO.out _ (List.getElem_mem hkl))
      generalize (l.take k).map Pc.name = nm at hat hsn hd hs hr
      obtain ⟨L1, clock, hmap, hkeys, hvals⟩ := hs.map
      have hn1 := (Nw.refl wr).alloc (.cells (pcV l[k]).toArray 32 (0, 0))
      have hs1 : Seen (wr.alloc (.cells (pcV l[k]).toArray 32 (0, 0))) w.heap.size nm := ⟨L1, clock, hn1.at_ hmap, hkeys, hvals⟩
      obtain ⟨x, W2, q1, q2, q3, q4, q5, q6⟩ := seen_step (w := w) hs1 hd l[k].name (hw.trans hn1) (Nat.le_refl _) (heap_alloc_new wr _)
      clear hmap hkeys hvals hs hs1 hn1 c0 c1 c2 c3
      have HNX := Lib.hid (And.intro hsn hd)
      clear hsn hd
      generalize hP : (l[k] : Pc) = P at *
      obtain ⟨pn, pf, pc, pd⟩ := P
      simp only [pcV] at q1 q2 q3 q5
      have HAT := Lib.hid hat
      have HR := Lib.hid hr
      have Q4 := Lib.hid q4
      have Q5 := Lib.hid q5
      have Q6 := Lib.hid q6
      have HP := Lib.hid hP
      have HW := Lib.hid hw
      clear hat hr q4 q5 q6 hP hw
      have hxx : x = 0 ∨ x = 1 := by rcases Q6.out with h | h <;> omega
      have hwx : IntKind.i64.wrap (x + 1) = x + 1 := IntWalk.i64_in _ (by omega)
      have y0 : W2.cell? ⟨wr.heap.size, 0, none⟩ = some (.string ⟨pn.toArray⟩) := by have := Q5.out; simp [World.cell?, this]
      go_wp2_with fail
      refine (named_ok pn W2 HOK.out.name).mono ?_
      rintro e w3 ⟨rfl, n3⟩
      have B3 := n3.at_ Q5.out
      have x0 : w3.cell? ⟨wr.heap.size, 0, none⟩ = some (.string ⟨pn.toArray⟩) := by simp [World.cell?, B3]
      have x1 : w3.cell? ⟨wr.heap.size, 1, none⟩ = some (.int .i64 pf) := by simp [World.cell?, B3]
      have x2 : w3.cell? ⟨wr.heap.size, 2, none⟩ = some (.int .i64 pc) := by simp [World.cell?, B3]
      have x3 : w3.cell? ⟨wr.heap.size, 3, none⟩ = some (.bool pd) := by simp [World.cell?, B3]
      have q7 := q3 w3 n3
      have N3 := Lib.hid (Q4.out.trans n3)
      have NN3 := Lib.hid n3
      clear q1 q2 q3 d0 d1 d2 d3 B3 n3 y0
      cases hok : okPiece pn
      case false =>
        have r : Hid (rightL l = false) := Lib.hid (by rw [R.out, HAT.out]; simp [hok])
        clear hok
        go_wp2
        go_ret
        exact ⟨by rw [r.out]; rfl, N3.out⟩
      case true =>
        have HOKN := Lib.hid hok
        clear hok
        rcases Q6.out with ⟨hin, rfl⟩ | ⟨hout, rfl, hseen⟩
        · have r : Hid (rightL l = false) := Lib.hid (by rw [R.out, HAT.out]; simp [hin])
          clear hin
          go_wp2
          go_ret
          exact ⟨by rw [r.out]; rfl, N3.out⟩
        · have HSEEN := Lib.hid hseen
          have HOUT := Lib.hid hout
          clear hseen hout
          by_cases hfe : pf = fi
          · subst hfe
            by_cases hla : k + 1 = n
            · have hlb : ((k : Int) == (n : Int) - 1) = true := by simp; omega
              have hlc : k + 1 = l.length := by rw [HN.out]; exact hla
              by_cases hp0 : pc = 0
              · subst hp0
                have hw0 : IntKind.i64.wrap (pf + 0) = pf + 0 := IntWalk.i64_in _ (by omega)
                cases pd
                case true =>
                  have r : Hid (rightL l = false) := Lib.hid (by rw [R.out, HAT.out]; simp [hlc])
                  go_wp2
                  go_ret
                  exact ⟨by rw [r.out]; rfl, N3.out⟩
                case false =>
                  have hst : rightFrom [] 0 l = rightFrom (pn :: nm.reverse) (pf + 0) (l.drop (k + 1)) := by rw [HAT.out]; simp [HOKN.out, HOUT.out, hlc]
                  have HST := Lib.hid hst
                  clear hst
                  go_wp2
                  go_roundw
                  case rel =>
                    have hsn := HNX.out.1
                    refine ⟨k + 1, pf + 0, by omega, by go_num, by first | rfl | simp, by omega, by omega, ?_, ?_, ?_, N3.out⟩
                    · rw [hsn, List.reverse_append]; exact HST.out
                    · rw [hsn, List.nodup_append]; exact ⟨HNX.out.2, by simp, fun a ha b hb => by rw [List.mem_singleton] at hb; subst hb; exact fun e => HOUT.out (e ▸ ha)⟩
                    · rw [hsn]
                      obtain ⟨L9, c9, m9, k9, v9⟩ := HSEEN.out.map
                      exact ⟨L9, c9, NN3.out.at_ m9, k9, v9⟩
                  case measure => simp [intOf]; omega
              · have hb : (pc != 0) = true := by simpa using hp0
                have r : Hid (rightL l = false) := Lib.hid (by rw [R.out, HAT.out]; simp [hlc, hp0])
                go_wp2
                go_ret
                exact ⟨by rw [r.out]; rfl, N3.out⟩
            · have hlb : ((k : Int) == (n : Int) - 1) = false := by simp; omega
              have hlc : ¬ k + 1 = l.length := by rw [HN.out]; exact hla
              by_cases hp1 : pc < 1
              · have hp1' : ¬ 1 ≤ pc := by omega
                have r : Hid (rightL l = false) := Lib.hid (by rw [R.out, HAT.out]; simp [hlc, hp1'])
                go_wp2
                go_ret
                exact ⟨by rw [r.out]; rfl, N3.out⟩
              by_cases hp2 : 1099511627776 < pc
              · have hp2' : ¬ pc ≤ 1099511627776 := by omega
                have r : Hid (rightL l = false) := Lib.hid (by rw [R.out, HAT.out]; simp [hlc, hp2'])
                go_wp2
                go_ret
                exact ⟨by rw [r.out]; rfl, N3.out⟩
              have hp1' : 1 ≤ pc := by omega
              have hp2' : pc ≤ 1099511627776 := by omega
              have hw0 : IntKind.i64.wrap (pf + pc) = pf + pc := IntWalk.i64_in _ (by omega)
              have hst : rightFrom [] 0 l = rightFrom (pn :: nm.reverse) (pf + pc) (l.drop (k + 1)) := by rw [HAT.out]; simp [HOKN.out, HOUT.out, hlc, hp1', hp2']
              have HST := Lib.hid hst
              clear hst
              go_wp2
              go_roundw
              case rel =>
                have hsn := HNX.out.1
                refine ⟨k + 1, pf + pc, by omega, by go_num, by first | rfl | simp, by omega, by omega, ?_, ?_, ?_, N3.out⟩
                · rw [hsn, List.reverse_append]; exact HST.out
                · rw [hsn, List.nodup_append]; exact ⟨HNX.out.2, by simp, fun a ha b hb => by rw [List.mem_singleton] at hb; subst hb; exact fun e => HOUT.out (e ▸ ha)⟩
                · rw [hsn]
                  obtain ⟨L9, c9, m9, k9, v9⟩ := HSEEN.out.map
                  exact ⟨L9, c9, NN3.out.at_ m9, k9, v9⟩
              case measure => simp [intOf]; omega
          · have r : Hid (rightL l = false) := Lib.hid (by rw [R.out, HAT.out]; simp [hfe])
            have hb : (pf != fi) = true := by simpa using hfe
            go_wp2
            go_ret
            exact ⟨by rw [r.out]; rfl, N3.out⟩
    · obtain rfl : k = n := by omega
      have r : Hid (rightL l = true) := Lib.hid (by rw [R.out, hr, List.drop_of_length_le (by rw [HN.out]; exact Nat.le_refl _)]; rfl)
      clear hr hs hd
      go_wp2
      go_ret
      exact ⟨by rw [r.out]; rfl, hw⟩
end Go.Proofs.YtjapijndljknnaaGreatDoor

/-
  Program-independent: a drawn region that calls in one order, and reads and reckons besides: walked in a list of steps: 'rd i': operation i only reads, in every world of the class (it may be taken whenever it may come); 'dn i': operation i is the only one that may come. Behind them a tail (from n on), in the text's order.
-/
namespace Go.Proofs.YtjapijndljknnaaGreatDoor
open Go Go.RowKit

inductive Stp where
  | rd (i : Nat)
  | dn (i : Nat)

section
variable {P : Program} {ops : Array Oper} {md : Region.Mode} {C : World → Prop} {Q : Exit → Act → World → Prop}
def wpSteps (P : Program) (ops : Array Oper) (C : World → Prop) (Q : Exit → Act → World → Prop) (K : Act → World → Prop) : List Stp → Act → World → Prop
  | [], a, w => K a w
  | .rd i :: l, a, w => match ops[i]? with
    | none => False
    | some o => if Region.wanted o (yielded ops a.tmps) then Oper.reads P o a C (fun a' => wpSteps P ops C Q K l a' w) else wpSteps P ops C Q K l (a.put o.dst undef) w
  | .dn i :: l, a, w => wpOp P ops Q i (fun a' w' => C w' ∧ wpSteps P ops C Q K l a' w') a w
def Region.stepsB (md : Region.Mode) (ops : Array Oper) (n : Nat) (r : List Nat) : List Stp → Array Bool → Bool
  | [], listed => Region.numsB md ops r listed
  | .rd i :: l, listed => decide (i < n) && (Region.ready md ops listed).contains i && Region.free md ops listed i && Region.stepsB md ops n r l (listed.setIfInBounds i true)
  | .dn i :: l, listed => decide (i < n) && decide (Region.ready md ops listed = [i]) && Region.stepsB md ops n r l (listed.setIfInBounds i true)

theorem wpAnyK_steps {n : Nat} (hsel : Region.noSelect ops = true) (hs : Region.sinkB md ops n = true) (hc : Region.chainB md ops n = true) (hn : n < ops.size)
    (hQ : ∀ (c : List PanicEntry) (a : Act) (d : Tmp) (v : Value) (w : World), Q (.panic c) (a.put (some d) v) w → Q (.panic c) a w) (r : List Nat) :
    ∀ (l : List Stp) (listed : Array Bool) (a : Act) (w : World), C w → HeadInv md ops n listed → Region.stepsB md ops n r l listed = true → wpSteps P ops C Q (fun a' w' => wpNums P ops C n Q r a' w') l a w →
      wpAnyK P md ops C n Q (l.length + r.length) listed a w
  | [], listed, a, w, _, _, hB, h => by rw [List.length_nil, Nat.zero_add]; exact wpAnyK_nums r listed a w hB h
  | .dn i :: l, listed, a, w, hC, inv, hB, h => by
    simp only [Region.stepsB, Bool.and_eq_true, decide_eq_true_eq] at hB
    rw [show (Stp.dn i :: l).length + r.length = (l.length + r.length) + 1 by simp only [List.length_cons]; omega]
    refine ⟨fun h1 => (by rw [hB.1.2] at h1; cases h1), fun j hj => ?_⟩
    have hji : j = i := by rw [hB.1.2] at hj; simpa using hj
    subst hji
    exact wpOp_mono (fun a' w' h' => ⟨fun _ => h'.1, wpAnyK_steps hsel hs hc hn hQ r l _ a' w' h'.1 (inv.set hj hB.1.1) hB.2 h'.2⟩) h
  | .rd i :: l, listed, a, w, hC, inv, hB, h => by
    simp only [Region.stepsB, Bool.and_eq_true, decide_eq_true_eq] at hB
    obtain ⟨⟨⟨hin, hr⟩, hf⟩, hB'⟩ := hB
    have hr' : i ∈ Region.ready md ops listed := by simpa using hr
    obtain ⟨hun, o, ho, _⟩ := mem_ready.1 hr'
    simp only [wpSteps, ho] at h
    have key : ∃ v, YieldsW P ops C o v a ∧ wpSteps P ops C Q (fun a' w' => wpNums P ops C n Q r a' w') l (a.put o.dst v) w := by
      by_cases hw : Region.wanted o (yielded ops a.tmps) = true
      · simp only [hw, if_true] at h
        obtain ⟨v, h1, h2⟩ := h
        exact ⟨v, .inl ⟨hw, h1⟩, h2⟩
      · simp only [hw] at h
        exact ⟨undef, .inr ⟨by simpa using hw, rfl⟩, h⟩
    obtain ⟨v, hy, hK⟩ := key
    rw [show (Stp.rd i :: l).length + r.length = (l.length + r.length) + 1 by simp only [List.length_cons]; omega]
    exact wpAnyK_first ho (Region.noSelect_spec hsel) (fun c a w h => by cases hdst : o.dst with | none => (rw [hdst] at h; exact h) | some d => (rw [hdst] at h; exact hQ c a d v w h)) hs hc hn hin (l.length + r.length) listed a w hC inv (Region.free_spec ho hf) hr' hy
      (wpAnyK_steps hsel hs hc hn hQ r l _ _ w hC (inv.set hr' hin) hB' hK)

def Region.stpB (ops : Array Oper) (n : Nat) (l : List Stp) (r : List Nat) : Bool :=
  Region.noSelect ops && decide (n < ops.size) && Region.sinkB .any ops n && Region.chainB .any ops n && decide (l.length + r.length = ops.size) && Region.stepsB .any ops n r l (Array.replicate ops.size false)

theorem wp_region_steps {id : Nat} {a : Act} {w : World} {l : List Oper} (n : Nat) (st : List Stp) (r : List Nat) (C : World → Prop) (hm : P.follows .mixedOrders = true) (hB : Region.stpB l.toArray n st r = true)
    (hQ : ∀ (c : List PanicEntry) (a : Act) (d : Tmp) (v : Value) (w : World), Q (.panic c) (a.put (some d) v) w → Q (.panic c) a w) (hC : C w.drew)
    (h : wpSteps P l.toArray C Q (fun a' w' => wpNums P l.toArray C n Q r a' w') st a w.drew) : (Code.region id l.toArray true).wp P Q a w := by
  simp only [Region.stpB, Bool.and_eq_true, decide_eq_true_eq] at hB
  obtain ⟨⟨⟨⟨⟨hsel, hn⟩, hs⟩, hc⟩, hlen⟩, hR⟩ := hB
  have inv0 : HeadInv .any l.toArray n (Array.replicate l.toArray.size false) :=
    ⟨by simp, fun j oj _ hl => (by rw [getD_replicate_false] at hl; cases hl), fun t _ ht => getD_in (by simpa using ht) (getD_replicate_false _ _)⟩
  have H := wpAnyK_steps (md := .any) hsel hs hc hn hQ r st _ a w.drew hC inv0 hR h
  have H' := wpAny_of_K _ _ _ _ H
  rw [hlen] at H'
  exact wp_region_any hm H'

/-! The steps of such a walk -/
theorem wpSteps_nil {K : Act → World → Prop} {a : Act} {w : World} (h : K a w) : wpSteps P ops C Q K [] a w := h
theorem wpSteps_rd {K : Act → World → Prop} {a : Act} {w : World} {i : Nat} {l : List Stp} {o : Oper} (ho : ops[i]? = some o)
    (h : ∀ K' : Act → Prop, (∀ a, wpSteps P ops C Q K l a w → K' a) → if Region.wanted o (yielded ops a.tmps) then Oper.reads P o a C K' else K' (a.put o.dst undef)) : wpSteps P ops C Q K (.rd i :: l) a w := by
  simp only [wpSteps, ho]; exact h _ (fun _ h => h)
theorem wpSteps_val {K : Act → World → Prop} {a : Act} {w : World} {i : Nat} {l : List Stp} {o : Oper} (v : Value) (ho : ops[i]? = some o) (hw : Region.wanted o (yielded ops a.tmps) = true)
    (hv : ∀ w, C w → (execOp a.eval o).run P w = .ok (.value v) w) (h : wpSteps P ops C Q K l (a.put o.dst v) w) : wpSteps P ops C Q K (.rd i :: l) a w := by
  simp only [wpSteps, ho, hw, if_true]; exact ⟨v, hv, h⟩
theorem wpSteps_dn {K : Act → World → Prop} {a : Act} {w : World} {i : Nat} {l : List Stp} {o : Oper} (ho : ops[i]? = some o)
    (h : ∀ K' : Act → World → Prop, (∀ a w, C w → wpSteps P ops C Q K l a w → K' a w) → wpList P ops (Exit.then K' Q) [o] a w) : wpSteps P ops C Q K (.dn i :: l) a w := by
  have h := h (fun a' w' => C w' ∧ wpSteps P ops C Q K l a' w') (fun a w h1 h2 => ⟨h1, h2⟩)
  simp only [wpSteps, wpOp, ho]
  simp only [wpList] at h
  split
  · rename_i hw
    rw [if_pos hw] at h
    rcases h with h | ⟨h1, h2⟩
    · refine .inl ?_
      unfold Oper.wp at *
      generalize (execOp a.eval o).run P w = r at *
      cases r with
      | ok n w' =>
        cases n <;> simp only [Oper.upon] at h ⊢
        case value u => exact h
        case skip => exact h
        case defer d => exact h
        case enter f args => exact Calls.mono h fun e w'' he => by cases e <;> exact he
        case row row args => exact h
      | halt x w' =>
        cases x <;> simp only [Oper.upon] at h ⊢
        case panic u => exact h
    · exact .inr ⟨h1, h2⟩
  · rename_i hw
    rw [if_neg hw] at h
    exact h
end
end Go.Proofs.YtjapijndljknnaaGreatDoor
