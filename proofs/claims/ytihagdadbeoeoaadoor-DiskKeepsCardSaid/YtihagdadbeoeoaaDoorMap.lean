/-
  Program-independent: maps keyed by strings, as lists of entries: look-up, store, delete, len, and the walk over all entries, each run once in the model.
-/
import Derived.Test.YtihagdadbeoeoaaDoorLib
import Derived.StringKeys
import Derived.Laws.IdiomRangeMap
import Derived.Sort.EncStr
namespace Go.Proofs.YtihagdadbeoeoaaDoor
open Go Go.RowKit

abbrev Str := List UInt8
/-- One entry of a map keyed by strings. -/
structure En where
  key : Str
  val : Value
  born : Nat
def En.entry (e : En) : MapEntry := { key := .string ⟨e.key.toArray⟩, val := e.val, born := e.born }
def ents (L : List En) : Array MapEntry := (L.map En.entry).toArray

theorem str_inj {a b : Str} (h : (⟨a.toArray⟩ : ByteArray) = ⟨b.toArray⟩) : a = b := by
  have := congrArg (fun x => x.data.toList) h; simpa using this

theorem sameNow_str (a b : Str) : Instr.sameNow .string (.string ⟨a.toArray⟩) (.string ⟨b.toArray⟩) = some (decide (a = b)) := by
  simp only [Instr.sameNow]
  congr 1
  by_cases h : a = b
  · subst h; simp only [decide_true]; exact (MapKept.bytes_beq _ _).2 rfl
  · simp only [h, decide_false]
    rw [Bool.eq_false_iff]
    exact fun e => h (str_inj ((MapKept.bytes_beq _ _).1 e))

theorem findNow_miss (k : Str) : ∀ (L : List En) (i : Nat), k ∉ L.map En.key → Instr.findNow .string (.string ⟨k.toArray⟩) (L.map En.entry) i = some none
  | [], _, _ => rfl
  | e :: L, i, h => by
    simp only [List.map_cons, List.mem_cons, not_or] at h
    simp only [List.map_cons, Instr.findNow, En.entry, sameNow_str, decide_eq_false h.1]
    exact findNow_miss k L (i + 1) h.2

theorem findNow_hit (k : Str) (e : En) (he : e.key = k) : ∀ (A B : List En) (i : Nat), k ∉ A.map En.key →
    Instr.findNow .string (.string ⟨k.toArray⟩) ((A ++ e :: B).map En.entry) i = some (some (i + A.length, e.val))
  | [], B, i, _ => by subst he; simp [Instr.findNow, En.entry, sameNow_str]
  | a :: A, B, i, h => by
    simp only [List.map_cons, List.mem_cons, not_or] at h
    simp only [List.cons_append, List.map_cons, Instr.findNow, En.entry, sameNow_str, decide_eq_false h.1]
    rw [findNow_hit k e he A B (i + 1) h.2]
    simp; omega

/-- Every key is in the list, or splits it. -/
theorem split_key (k : Str) : ∀ (L : List En), k ∉ L.map En.key ∨ ∃ A e B, L = A ++ e :: B ∧ e.key = k ∧ k ∉ A.map En.key
  | [] => .inl (by simp)
  | a :: L => by
    by_cases h : a.key = k
    · exact .inr ⟨[], a, L, rfl, h, by simp⟩
    · rcases split_key k L with h1 | ⟨A, e, B, rfl, h2, h3⟩
      · exact .inl (by simp [h1, Ne.symm h])
      · exact .inr ⟨a :: A, e, B, rfl, h2, by simp [h3, Ne.symm h]⟩

def World.setBlk (w : World) (r : Nat) (o : Obj) : World := { w with heap := w.heap.setIfInBounds r o }
theorem setBlk_same {w : World} {r : Nat} {o o' : Obj} (h : w.heap[r]? = some o) : (World.setBlk w r o').heap[r]? = some o' := (MapKept.heap_set h).1
theorem setBlk_other {w : World} {r k : Nat} {o' : Obj} (h : k ≠ r) : (World.setBlk w r o').heap[k]? = w.heap[k]? := by
  simp [World.setBlk, Ne.symm h]
@[simp] theorem setBlk_size {w : World} {r : Nat} {o : Obj} : (World.setBlk w r o).heap.size = w.heap.size := by simp [World.setBlk]
theorem Only.setBlk {S : Nat → Prop} {w w' : World} (h : Only S w w') {r : Nat} (hp : r < w.heap.size → S r) (o : Obj) : Only S w (World.setBlk w' r o) :=
  h.trans' (T := fun k => k = r) ⟨rfl, rfl, rfl, by simp, fun k _ hn => setBlk_other hn⟩ (fun k hk e => by subst e; exact hp hk)

section
variable {P : Program} {w : World} {t kt et : TypeId} {m clock : Nat} {L : List En} {k : Str}

theorem run_checkStr (hk : P.underlying kt = some .string) (b : Bool) (k : Str) (w : World) : (Instr.checkKey b 10000 kt (.string ⟨k.toArray⟩)).run P w = .ok () w :=
  MapKept.run_checkKey (k := .string ⟨k.toArray⟩) hk (by simp [MapKept.IsKey]) b 9999

theorem run_look_miss (ht : P.underlying t = some (.map kt et)) (hk : P.underlying kt = some .string) {z : Value} (hz : (zeroValue et).run P w = .ok z w)
    (hb : w.heap[m]? = some (.map (ents L) clock)) (hn : k ∉ L.map En.key) :
    (Instr.lookup t (.map (some m)) (.string ⟨k.toArray⟩) false).run P w = .ok z w := by
  have h1 := MapKept.run_findKey (w := w) hk (findNow_miss k L 0 hn)
  have h2 := fun b => run_checkStr (w := w) hk b k
  simp [Instr.lookup, run_underlying ht, MapKept.run_getObj_map hb, h2, Result.andThen, ents, h1, hz]

theorem run_look_hit {A B : List En} {e : En} (ht : P.underlying t = some (.map kt et)) (hk : P.underlying kt = some .string)
    (hb : w.heap[m]? = some (.map (ents (A ++ e :: B)) clock)) (he : e.key = k) (hn : k ∉ A.map En.key) :
    (Instr.lookup t (.map (some m)) (.string ⟨k.toArray⟩) false).run P w = .ok e.val w := by
  have h1 := MapKept.run_findKey (w := w) hk (findNow_hit k e he A B 0 hn)
  have h2 := fun b => run_checkStr (w := w) hk b k
  unfold ents at hb
  generalize (A ++ e :: B).map En.entry = l at *
  simp [Instr.lookup, run_underlying ht, MapKept.run_getObj_map hb, h2, Result.andThen, h1]

theorem run_store_miss (ht : P.underlying t = some (.map kt et)) (hk : P.underlying kt = some .string) (hb : w.heap[m]? = some (.map (ents L) clock)) (hn : k ∉ L.map En.key) (v : Value) :
    (Instr.mapUpdate t (.map (some m)) (.string ⟨k.toArray⟩) v).run P w = .ok () (World.setBlk w m (.map (ents (L ++ [⟨k, v, clock⟩])) (clock + 1))) := by
  have h1 := MapKept.run_findKey (w := w) hk (findNow_miss k L 0 hn)
  have h2 := run_checkStr (w := w) hk false k
  simp [Instr.mapUpdate, run_underlying ht, MapKept.run_getObj_map hb, h2, Result.andThen, ents, h1, MapKept.run_setObj_map _ hb, World.setBlk, En.entry]

theorem run_store_hit {A B : List En} {e : En} (ht : P.underlying t = some (.map kt et)) (hk : P.underlying kt = some .string) (hb : w.heap[m]? = some (.map (ents (A ++ e :: B)) clock)) (he : e.key = k) (hn : k ∉ A.map En.key) (v : Value) :
    (Instr.mapUpdate t (.map (some m)) (.string ⟨k.toArray⟩) v).run P w = .ok () (World.setBlk w m (.map (ents (A ++ ⟨k, v, e.born⟩ :: B)) clock)) := by
  have h1 := MapKept.run_findKey (w := w) hk (findNow_hit k e he A B 0 hn)
  have h2 := run_checkStr (w := w) hk false k
  have h3 := MapKept.run_keyThatStays (P := P) (w := w) (d := .string) (k := .string ⟨k.toArray⟩) trivial
  subst he
  have hget : ((A ++ e :: B).map En.entry).toArray[A.length]? = some e.entry := by simp
  simp only [Instr.mapUpdate, Sem.run_bind, run_underlying ht, MapKept.run_getObj_map hb, h2, Result.andThen, ents, h1, Nat.zero_add, hget, Option.map_some, Option.getD_some]
  simp only [En.entry] at h3 ⊢
  simp only [h3, MapKept.run_setObj_map _ hb, World.setBlk]
  congr 3
  have hm : ∀ (X Y : List MapEntry) (f : MapEntry → MapEntry) (y : MapEntry), (X ++ y :: Y).toArray.modify X.length f = (X ++ f y :: Y).toArray := fun X Y f y => by
    apply Array.ext'
    rw [Array.toList_modify]
    simp [List.modify_eq_take_drop]
  have := hm (A.map En.entry) (B.map En.entry) (fun x => { key := .string ⟨e.key.toArray⟩, val := v, born := x.born }) e.entry
  rw [List.length_map] at this
  simpa [List.map_append, En.entry] using this

theorem run_drop_hit {A B : List En} {e : En} (ty : TypeId) (ht : P.underlying t = some (.map kt et)) (hk : P.underlying kt = some .string) (hb : w.heap[m]? = some (.map (ents (A ++ e :: B)) clock)) (he : e.key = k) (hn : k ∉ A.map En.key) :
    (Builtin.delete_ #[t, kt] ty #[.map (some m), .string ⟨k.toArray⟩]).run P w = .ok (.tuple #[]) (World.setBlk w m (.map (ents (A ++ B)) clock)) := by
  have h1 := MapKept.run_findKey (w := w) hk (findNow_hit k e he A B 0 hn)
  have h2 := fun b => run_checkStr (w := w) hk b k
  simp only [Builtin.delete_, List.getElem?_toArray, List.getElem?_cons_zero, List.getElem?_cons_succ, Sem.run_bind, run_underlying ht, MapKept.run_getObj_map hb, h2, Result.andThen, ents, h1, MapKept.run_setObj_map _ hb, World.setBlk]
  simp [Array.eraseIdxIfInBounds, List.eraseIdx_append_of_length_le]

theorem run_len_map (ty : TypeId) (ht : P.underlying t = some (.map kt et)) (hb : w.heap[m]? = some (.map (ents L) clock)) :
    (Builtin.len_ #[t] ty #[.map (some m)]).run P w = .ok (.int .i64 L.length) w := by
  simp [Builtin.len_, run_underlying ht, MapKept.run_getObj_map hb, ents, goInt]

/-- The walk over a map begins. -/
theorem run_range_en (ht : P.underlying t = some (.map kt et)) (hb : w.heap[m]? = some (.map (ents L) clock)) :
    (Instr.range t (.map (some m))).run P w = .ok (.pointer (some ⟨w.heap.size, 0, none⟩)) (w.alloc (.mapIter (some m) clock #[] clock)) :=
  run_range_map w t kt et m _ clock ht hb

/-- What is left of the walk. -/
def leftEn (L : List En) (seen : Array Nat) : List En := L.filter fun e => !seen.contains e.born

/-- One entry more of a map that nobody has written since the walk began, whichever; or none is left. -/
theorem run_next_en (ty : TypeId) {r since last : Nat} {seen : Array Nat} (hr : w.heap[r]? = some (.mapIter (some m) since seen last))
    (hb : w.heap[m]? = some (.map (ents L) clock)) (hold : ∀ e ∈ L, e.born < since) (hsc : since ≤ last) :
    (leftEn L seen = [] ∧ (Instr.next (.pointer (some ⟨r, 0, none⟩)) false ty).run P w = .ok (.tuple #[.bool false]) w) ∨
    ∃ e ∈ leftEn L seen, ∃ w1 : World, (w1 = w ∨ w1 = w.drew) ∧ (Instr.next (.pointer (some ⟨r, 0, none⟩)) false ty).run P w =
      .ok (.tuple #[.bool true, .string ⟨e.key.toArray⟩, e.val]) (World.setBlk w1 r (.mapIter (some m) since (seen.push e.born) clock)) := by
  have hold' : ∀ x ∈ (ents L).toList, x.born < since := fun x hx => by
    simp only [ents, List.mem_map] at hx
    obtain ⟨e, he, rfl⟩ := hx
    exact hold e he
  simp only [Instr.next, getObj, Sem.run_bind, Sem.run, hr, hb, Result.andThen, next_test_false seen (ents L) since last hold' hsc, Bool.false_eq_true, if_false]
  have hl : Array.filter (fun e => !seen.contains e.born) (ents L) = ((leftEn L seen).map En.entry).toArray := by
    apply Array.ext'
    simp only [ents, leftEn, Array.toList_filter, List.filter_map]
    rfl
  have hsub : ∀ e ∈ leftEn L seen, e.born < since := fun e he => hold e (List.mem_filter.1 he).1
  rw [hl]
  generalize leftEn L seen = M at hsub ⊢
  have e1 : ((M.map En.entry).toArray).filter (fun x => decide (x.born < since)) = (M.map En.entry).toArray := Array.filter_eq_self.2 (fun x hx => by
    simp only [List.mem_toArray, List.mem_map] at hx
    obtain ⟨e, he, rfl⟩ := hx
    exact decide_eq_true (hsub e he))
  have e2 : ((M.map En.entry).toArray).filter (fun x => decide (x.born ≥ since)) = #[] := by
    rw [Array.filter_eq_empty_iff]
    intro x hx
    simp only [List.mem_toArray, List.mem_map] at hx
    obtain ⟨e, he, rfl⟩ := hx
    have := hsub e he
    simp [En.entry]; omega
  simp only [e1, e2, Array.append_empty]
  by_cases h0 : M = []
  · subst h0
    exact .inl ⟨rfl, by simp [choose, Sem.run, Question.forced]⟩
  · right
    have hp : 0 < M.length := List.length_pos_iff.2 h0
    have hne : ((M.map En.entry).toArray).isEmpty = false := by simp [Array.isEmpty]; omega
    simp only [hne, Bool.false_eq_true, if_false, Array.empty_append, Array.size_map, List.size_toArray, List.length_map]
    have hch : ∃ (j : Nat) (w1 : World), j < M.length ∧ (w1 = w ∨ w1 = w.drew) ∧ (choose (Question.mapNext M.length)).run P w = .ok j w1 := by
      by_cases hf : M.length ≤ 1
      · exact ⟨0, w, hp, .inl rfl, by simp [choose, Sem.run, Question.forced, hf]⟩
      · exact ⟨_, w.drew, Nat.mod_lt _ hp, .inr rfl, by
          simp only [choose, Sem.run, Question.forced, decide_eq_true_eq, hf, if_false, Question.cut]
          rfl⟩
    obtain ⟨j, w1, hj, hw1, hrun⟩ := hch
    have hr1 : w1.heap[r]? = some (.mapIter (some m) since seen last) := by rcases hw1 with rfl | rfl <;> exact hr
    refine ⟨M[j], by simp, w1, hw1, ?_⟩
    simp only [hrun, List.map_toArray, List.getElem?_toArray, List.getElem?_map, List.getElem?_eq_getElem hj, Option.map_some, Sem.run_bind, setObj, Sem.run, hr1, Result.andThen]
    rfl
end
end Go.Proofs.YtihagdadbeoeoaaDoor
