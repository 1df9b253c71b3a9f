/-
  The names of a disk, sorted.
-/
import Derived.Test.YtihagdadbeoeoaaDoorDiskC
import Derived.Sort.OwnSorted
import Derived.Sort.KeysCollected
import Derived.Maps.RangeWalk
namespace Go.Proofs.YtihagdadbeoeoaaDoor
open Go Go.RowKit Go.Sort
set_option maxRecDepth 100000
set_option maxHeartbeats 400000

/-- A slice of strings. -/
abbrev Ss (w : World) (v : Value) (l : List Str) : Prop := Rd encStr w v l

theorem Rd.of_owns {α : Type} {f : α → Value} {w : World} {base e : Nat} {v : Value} {l : List α} (h : w.ownsRow base e 1 v l.length (l.map f)) : Rd f w v l := by
  obtain ⟨-, ⟨rfl, h0⟩ | ⟨g, cap, cur, rfl, hb, h1, h2, h3, h4, h5⟩⟩ := h
  · exact .inl ⟨none, by simp, List.eq_nil_of_length_eq_zero h0⟩
  · refine .inr ⟨g, 0, cap, rfl, h2, h3, lt_of_block h1, fun i hi => ?_⟩
    have e : cur.toList[i]? = (l.map f)[i]? := by rw [← h5, Nat.mul_one]; simp [hi]
    have e' : cur[i]? = some (f l[i]) := by
      have : cur.toList[i]? = cur[i]? := by simp
      rw [← this, e]; simp [hi]
    simp [World.cell?, h1, e']

theorem one_news {w : World} {x : Value} {t : TypeId} : ∀ (j : Nat) (u : Value), [x][j]? = some u → (w.alloc (.cells #[x] t)).cell? ((⟨w.heap.size, 0, none⟩ : Addr).add j) = some u := by
  intro j u h
  cases j with
  | zero => simp at h; subst h; simp [Addr.add]
  | succ j => simp at h
theorem one_cell {x : Value} (h : x.oneCell' = true) : ∀ u ∈ [x], u.oneCell' = true := by
  intro u hu; simp at hu; subst hu; exact h

theorem sort_strs {B : Nat} (w : World) (v : Value) (ss : List Str) (h : w.ownsRow B 9 1 v ss.length (ss.map encStr)) (hl : ss.length < 4611686018427387904) :
    Calls Tryd.prog 63 #[v] w fun e w' => e = .returned (.tuple #[]) ∧ w'.ownsRow B 9 1 v ss.length ((ss.mergeSort fun x y => decide (x ≤ y)).map encStr) ∧ Only (fun k => v.ownBlock = some k) w w' := by
  obtain ⟨h0, ⟨rfl, hn⟩ | ⟨g, cap, cur, rfl, hb, h1, h2, h3, h4, h5⟩⟩ := h
  · have : ss = [] := List.eq_nil_of_length_eq_zero hn
    subst this
    refine (Tryd.slices_Sort_string_none none 0 w).mono ?_
    rintro e w' ⟨he, rfl⟩
    exact ⟨he, by simp [World.ownsRow], Only.refl _⟩
  · rw [Nat.mul_one] at h5
    refine (Tryd.slices_Sort_string g 0 cap ss w (holds_of_block h1 h5) (lt_of_block h1) hl).mono ?_
    rintro e w' ⟨he, n, os, rfl⟩
    refine ⟨he, ownsRow_sorted (by simp) hb h1 h2 h3 h4, ?_⟩
    exact (Only.refl w).grown (grownBy_sorted _) (fun k hk _ => by simpa [Value.ownBlock] using hk)

/-! ### Which entries a walk over a map has met -/
theorem perm_filter_born {e : En} : ∀ {l : List En}, (l.map En.born).Nodup → e ∈ l → l.Perm (e :: l.filter fun x => !(x.born == e.born)) := by
  intro l
  induction l with
  | nil => intro _ h; cases h
  | cons a l ih =>
    intro hn he
    simp only [List.map_cons, List.nodup_cons] at hn
    by_cases hae : a.born = e.born
    · have hnot : ∀ x ∈ l, ¬ x.born = e.born := fun x hx hc => hn.1 (by rw [hae, ← hc]; exact List.mem_map_of_mem hx)
      have hea : e = a := by
        rcases List.mem_cons.1 he with h | h
        · exact h
        · exact absurd rfl (hnot e h)
      subst hea
      have hf : l.filter (fun x => !(x.born == e.born)) = l := List.filter_eq_self.2 (fun x hx => by simpa using hnot x hx)
      simp [hf]
    · have hel : e ∈ l := by
        rcases List.mem_cons.1 he with h | h
        · exact absurd (by rw [h]) hae
        · exact h
      have := ih hn.2 hel
      rw [List.filter_cons, if_pos (by simpa using hae)]
      exact (List.Perm.cons a this).trans (List.Perm.swap e a _)

theorem leftEn_push (L : List En) (seen : Array Nat) (b : Nat) : leftEn L (seen.push b) = (leftEn L seen).filter fun x => !(x.born == b) := by
  simp only [leftEn, List.filter_filter]
  congr 1
  funext x
  rw [Array.contains_push, Bool.not_or, Bool.and_comm]

/-- What has been met, and what is left, are all. -/
structure Met (L : List En) (seen : Array Nat) (D : List En) : Prop where
  born : (L.map En.born).Nodup
  perm : (D ++ leftEn L seen).Perm L
theorem Met.start {L : List En} (h : (L.map En.born).Nodup) : Met L #[] [] := ⟨h, by rw [show leftEn L #[] = L from List.filter_eq_self.2 (by simp)]; exact List.Perm.refl _⟩
theorem Met.step {L D : List En} {seen : Array Nat} (h : Met L seen D) {e : En} (he : e ∈ leftEn L seen) : Met L (seen.push e.born) (D ++ [e]) ∧ (leftEn L (seen.push e.born)).length < (leftEn L seen).length := by
  have hn : ((leftEn L seen).map En.born).Nodup := List.Nodup.sublist (List.Sublist.map _ List.filter_sublist) h.born
  have hp := perm_filter_born hn he
  rw [← leftEn_push] at hp
  refine ⟨⟨h.born, ?_⟩, ?_⟩
  · rw [List.append_assoc]
    exact (List.Perm.append_left D hp.symm).trans h.perm
  · have := hp.length_eq
    simp at this; omega
theorem Met.done {L D : List En} {seen : Array Nat} (h : Met L seen D) (hl : leftEn L seen = []) : D.Perm L := by
  have := h.perm; rw [hl, List.append_nil] at this; exact this

section
variable {P : Program} {w : World} {m clock : Nat} {L : List En}
theorem run_entry_en {r since : Nat} {seen : Array Nat} {e : En} (hr : w.heap[r]? = some (.mapIter (some m) since (seen.push e.born) clock)) (hb : w.heap[m]? = some (.map (ents L) clock)) (he : e ∈ L) (hn : (L.map En.born).Nodup) :
    (Instr.entry (.pointer (some ⟨r, 0, none⟩))).run P w = .ok (.tuple #[.string ⟨e.key.toArray⟩, e.val]) w := by
  have hf : (ents L).find? (·.born == e.born) = some e.entry := by
    rw [← Array.find?_toList]
    exact find_born e.entry _ (by simpa [ents, List.map_map, Function.comp_def, En.entry] using hn) (by simp only [ents]; exact List.mem_map_of_mem he)
  simp only [Instr.entry, getObj, Sem.run_bind, Sem.run, hr, hb, Result.andThen, Array.back?_push, bne_self_eq_false, Bool.false_eq_true, if_false, hf]
  rfl

/-- The step of a walk over a map, as an arm. -/
theorem wpList_next_en {ops : Array Oper} {rest : List Oper} {o : Oper} {a : Act} {Q : Exit → Act → World → Prop} (hg : o.guard = none) (it : Operand) (hop : o.op = Op.next it false)
    {r : Nat} {seen : Array Nat} {D : List En} (hit : a.eval it = .pointer (some ⟨r, 0, none⟩)) (hr : w.heap[r]? = some (.mapIter (some m) clock seen clock)) (hb : w.heap[m]? = some (.map (ents L) clock))
    (hold : ∀ e ∈ L, e.born < clock) (hm : Met L seen D) (hrm : r ≠ m)
    (hDone : D.Perm L → wpList P ops Q rest (a.put o.dst (.tuple #[.bool false])) w)
    (hMore : ∀ (e : En) (seen' : Array Nat) (w1 : World), e ∈ L → Met L seen' (D ++ [e]) → (leftEn L seen').length < (leftEn L seen).length → w1.heap[r]? = some (.mapIter (some m) clock seen' clock) → w1.heap[m]? = some (.map (ents L) clock) →
      Only (fun k => k = r) w w1 → w1.heap.size = w.heap.size → (Instr.entry (.pointer (some ⟨r, 0, none⟩))).run P w1 = .ok (.tuple #[.string ⟨e.key.toArray⟩, e.val]) w1 →
      wpList P ops Q rest (a.put o.dst (.tuple #[.bool true, .string ⟨e.key.toArray⟩, e.val])) w1) :
    wpList P ops Q (o :: rest) a w := by
  refine wpList_plain hg fun K' hK' => ?_
  unfold Oper.wp
  rcases run_next_en (P := P) o.type hr hb hold (Nat.le_refl _) with ⟨h0, hrun⟩ | ⟨e, he, w1, hw1, hrun⟩
  · simp [execOp, hop, hit, hrun, Result.andThen]
    exact hK' _ _ (hDone (hm.done h0))
  · simp [execOp, hop, hit, hrun, Result.andThen]
    obtain ⟨hm', hlt⟩ := hm.step he
    have heL : e ∈ L := (List.mem_filter.1 he).1
    have hr1 : w1.heap[r]? = some (.mapIter (some m) clock seen clock) := by rcases hw1 with rfl | rfl <;> exact hr
    have hb1 : w1.heap[m]? = some (.map (ents L) clock) := by rcases hw1 with rfl | rfl <;> exact hb
    have hr2 := setBlk_same (o' := .mapIter (some m) clock (seen.push e.born) clock) hr1
    have hb2 : (World.setBlk w1 r (.mapIter (some m) clock (seen.push e.born) clock)).heap[m]? = some (.map (ents L) clock) := by rw [setBlk_other (Ne.symm hrm)]; exact hb1
    refine hK' _ _ (hMore e (seen.push e.born) _ heL hm' hlt hr2 hb2 ?_ ?_ (run_entry_en hr2 hb2 heL hm.born))
    · refine Only.setBlk (S := fun k => k = r) ?_ (fun _ => rfl) _
      rcases hw1 with rfl | rfl
      · exact Only.refl _
      · exact (Only.refl _).drew
    · rw [setBlk_size]; rcases hw1 with rfl | rfl <;> rfl
end

theorem Tryd.infoStr : (Tryd.prog.info? 9).map (fun i => (i.zero, i.size, i.bytes)) = some (some (.string ⟨#[]⟩), 1, 16) := by kernel_rfl

theorem eraseNames {L : List (Str × DFile)} : namesF L = L.map Prod.fst := rfl

theorem List_nil (w : World) : Calls Tryd.prog 26 #[.pointer none] w fun e w' => e = .returned (.slice none 0 0) ∧ w = w' := by
  go_enter Tryd.func26, Tryd.ntmps26
  go_wp2_with (go_at_call 49; refine (none_nil _).mono ?_; rintro e w' ⟨rfl, rfl⟩)
  go_ret
  exact ⟨rfl, rfl⟩
theorem List_zero (w : World) (b : Nat) (h0 : w.cell? ⟨b, 0, none⟩ = some (.map none)) : Calls Tryd.prog 26 #[.pointer (some ⟨b, 0, none⟩)] w fun e w' => e = .returned (.slice none 0 0) ∧ w = w' := by
  go_enter Tryd.func26, Tryd.ntmps26
  go_wp2_with (go_at_call 49; refine (none_zero _ b h0).mono ?_; rintro e w' ⟨rfl, rfl⟩)
  go_ret
  exact ⟨rfl, rfl⟩

/-- What List hands back. -/
def ListPost (w : World) (l : List Str) (e : Ending) (w' : World) : Prop := ∃ v, e = .returned v ∧ Ss w' v l ∧ Nw w w' ∧ ∀ g, v.ownBlock = some g → w.heap.size ≤ g

def ListRel (w : World) (m clock : Nat) (L : List En) (v : Value) (wr : World) : Prop := ∃ seen D, wr.heap[w.heap.size]? = some (.mapIter (some m) clock seen clock) ∧ wr.heap[m]? = some (.map (ents L) clock) ∧ Met L seen D ∧
  wr.ownsRow w.heap.size 9 1 v (D.map En.key).length ((D.map En.key).map encStr) ∧ Nw w wr ∧ v.ownBlock ≠ some w.heap.size ∧ D.length ≤ L.length

theorem List_ok {w : World} {b : Nat} {d : Dsk} {S : Nat → Prop} (h : DiskIn w b d S) :
    Calls Tryd.prog 26 #[.pointer (some ⟨b, 0, none⟩)] w (ListPost w d.list) := by
  obtain ⟨m, fs, hD, -⟩ := h
  obtain ⟨c0, c1, c2, c3, -⟩ := hdr_cells hD.hdr
  obtain ⟨clock, hmap, hborn⟩ := hD.map
  have hok := hD.ok
  have hfl : d.files.length = fs.length := by rw [hD.files]; simp
  have hml : m < w.heap.size := lt_of_block hmap
  have hold : ∀ e ∈ fs.map FE.en, e.born < clock := fun e he => by
    obtain ⟨f, hf, rfl⟩ := List.mem_map.1 he
    exact hborn f hf
  have hmet := Met.start (L := fs.map FE.en) (by simpa [List.map_map, Function.comp_def, FE.en] using hD.born)
  have hlist : d.list = ((fs.map FE.en).map En.key).mergeSort fun x y => decide (x ≤ y) := by
    simp [Dsk.list, hD.files, namesF, List.map_map, Function.comp_def, FE.nf, FE.en]
  have hfew : fs.length ≤ 200 := by rw [← hfl]; exact hok.few
  rw [hlist]
  have HL := Lib.hid hfew
  generalize hE : fs.map FE.en = L at *
  have hLl : L.length ≤ 200 := by rw [← hE]; simpa using hfew
  clear hD hok hfl hborn hlist hfew HL hE c1 c2 c3
  obtain ⟨i0, hi, hz0, hz1, hz2⟩ := info_parts Tryd.infoStr
  have hrange := run_range_en (P := Tryd.prog) Tryd.underlying67 hmap
  have HM := Lib.hid hmap; clear hmap
  have HO := Lib.hid hold
  have HT := Lib.hid hmet
  clear hold hmet
  go_enter Tryd.func26, Tryd.ntmps26
  go_wp2_with (go_at_call 49; refine (none_ok _ b m c0).mono ?_; rintro e w' ⟨rfl, rfl⟩)
  go_loopw [3] (fun v wr => ListRel w m clock L v wr) (fun _ wr => (leftEn L (World.iterSeen wr w.heap.size)).length)
  case atStart =>
    refine ⟨#[], [], heap_alloc_new _ _, ?_, HT.out, World.ownsRow_nil _ _ _ _, (Nw.refl w).alloc _, by simp [Value.ownBlock], Nat.zero_le _⟩
    rw [heap_alloc_old _ _ hml]; exact HM.out
  case round =>
    obtain ⟨seen, D, hr, hb, hm, hown, hnw, hne, hDl⟩ := hrel
    have hrm : w.heap.size ≠ m := by omega
    go_wp2_with (at_next; refine wpList_next_en rfl _ rfl rfl hr hb HO.out hm hrm ?_ ?_)
    · intro hperm
      have hlen : (D.map En.key).length < 4611686018427387904 := by simp; omega
      have hkeys : ((D.map En.key).mergeSort fun x y => decide (x ≤ y)) = ((L.map En.key).mergeSort fun x y => decide (x ≤ y)) := Go.mergeSort_of_perm (hperm.map En.key)
      have hsort := Lib.hid (sort_strs wr u3 (D.map En.key) hown hlen)
      have HK := Lib.hid hkeys
      have HB := Lib.hid (hown.lt)
      clear hkeys hown hm hr hb hne hlen hperm
      go_wp2_with (go_at_call 63; refine hsort.out.mono ?_; rintro e w2 ⟨rfl, hown2, ho2⟩)
      go_ret
      have hnw2 : Nw w w2 := hnw.trans' ho2 (fun k hk e => by have := HB.out k e; omega)
      rw [HK.out] at hown2
      have hl : (D.map En.key).length = ((L.map En.key).mergeSort fun x y => decide (x ≤ y)).length := by rw [← HK.out]; simp
      rw [hl] at hown2
      exact ⟨_, rfl, Rd.of_owns hown2, hnw2, fun g hg => (HB.out g hg).1⟩
    · intro e seen' w1 heL hm' hlt hr1 hb1 ho1 hs1 hen
      have hown1 : w1.ownsRow w.heap.size 9 1 u3 (D.map En.key).length ((D.map En.key).map encStr) := hown.kept (row := some w.heap.size) ⟨ho1.os, ho1.tape, ho1.output, ho1.size, fun k hk hn => ho1.block k hk (fun e => hn (by rw [e]))⟩ (.inr hne)
      have hsz : w.heap.size ≤ w1.heap.size := by rw [hs1]; exact hnw.size
      have hlen : (D.map En.key).length ≤ 200 := by simp; have : (D ++ [e]).length ≤ L.length := by { have := hm'.perm.length_eq; simp at this ⊢; omega }; simp at this; omega
      have HM1 := Lib.hid hm'
      have HR1 := Lib.hid hr1
      have HB1 := Lib.hid hb1
      have HS := Lib.hid hs1
      have HLT := Lib.hid hlt
      have HOW := Lib.hid hown
      have HN1 : Nw w w1 := hnw.trans' ho1 (fun k hk e => by omega)
      have HE := Lib.hid heL
      have HR := Lib.hid hr
      clear hm' hr1 hb1 hs1 hlt hm hr hb hown heL ho1
      go_wp2_with (at_builtin; refine wpList_append_own _ rfl _ _ 24 rfl w.heap.size 9 i0 (.string ⟨#[]⟩) 1 16 Tryd.underlying24 hi hz0 hz1 hz2 rfl (by decide) _ _ _ rfl (hown1.alloc _) ⟨w1.heap.size, 0, none⟩ 1 1 [.string ⟨e.key.toArray⟩] rfl rfl ?c1 ?c2 ?c3 ?c4 ?c5 ?_)
      case c1 => exact one_news
      case c2 => exact one_cell rfl
      case c3 => unfold maxLen; omega
      case c4 => omega
      case c5 => rw [World.size_alloc]; omega
      intro v' w2 hown2 hgr hnil
      have HX := Lib.hid hown2
      have HG := Lib.hid hgr
      have HLN := Lib.hid hlen
      clear hown2 hgr hnil hown1 hlen
      go_wp2
      go_roundw
      case rel =>
        have hn2 : Nw w w2 := Only.grown (HN1.alloc _) HG.out (fun k hk hkl => absurd hkl (by have := (HOW.out.lt k hk).1; omega))
        have hr2 : w2.heap[w.heap.size]? = some (.mapIter (some m) clock seen' clock) := by
          rw [HG.out.block _ (by rw [World.size_alloc, HS.out]; have := hnw.size; have h := lt_of_block HR1.out; omega) (fun h => hne h.symm), heap_alloc_old _ _ (lt_of_block HR1.out)]
          exact HR1.out
        refine ⟨seen', D ++ [e], hr2, ?_, HM1.out, ?_, hn2, ?_, ?_⟩
        · have hml1 : m < w1.heap.size := lt_of_block HB1.out
          rw [HG.out.block m (by rw [World.size_alloc]; omega) (fun h => by have := (HOW.out.lt m h.symm).1; omega), heap_alloc_old _ _ hml1]
          exact HB1.out
        · have hh := HX.out
          simpa [List.map_append] using hh
        · intro hc
          rcases HX.out.2 with ⟨hv, -⟩ | ⟨g, cap, cur, hv, -, hg, -⟩
          · rw [hv] at hc; cases hc
          · rw [hv] at hc
            have hgr : g = w.heap.size := by simpa [Value.ownBlock] using hc
            rw [hgr, hr2] at hg; cases hg
        · have := HM1.out.perm.length_eq; simp at this ⊢; omega
      case measure =>
        have hr2 : w2.heap[w.heap.size]? = some (.mapIter (some m) clock seen' clock) := by
          rw [HG.out.block _ (by rw [World.size_alloc, HS.out]; have := hnw.size; have h := lt_of_block HR1.out; omega) (fun h => hne h.symm), heap_alloc_old _ _ (lt_of_block HR1.out)]
          exact HR1.out
        have e1 : World.iterSeen w2 w.heap.size = seen' := by simp [World.iterSeen, hr2]
        have e2 : World.iterSeen wr w.heap.size = seen := by simp [World.iterSeen, HR.out]
        rw [e1, e2]; exact HLT.out
end Go.Proofs.YtihagdadbeoeoaaDoor
