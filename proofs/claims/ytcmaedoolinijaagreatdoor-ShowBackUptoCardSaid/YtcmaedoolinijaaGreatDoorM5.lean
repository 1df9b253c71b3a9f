/-
  Texts merged by a program of this claim's: TreeA, Map, Disk, Open, Opens, CodePlain.
-/
import Derived.Test.YtcmaedoolinijaaGreatDoorM4
import Derived.Test.YtcmaedoolinijaaGreatDoorM1
import Derived.StringKeys
import Derived.Laws.IdiomRangeMap
import Derived.Sort.EncStr
import Derived.Test.YtcmaedoolinijaaGreatDoorM3
import Derived.ChangeSlices
import Derived.ChangeShapes
import Derived.Deep.Slices
import Derived.Deep.Fields
import Derived.ChangeSame
namespace Go.Proofs.YtcmaedoolinijaaGreatDoor
open Go Go.RowKit Go.Sort
set_option maxRecDepth 100000
set_option maxHeartbeats 3200000
theorem fieldTok1 (w : World) (a b c d e f : Value) : (Instr.field 84 (.agg #[a, b, c, d, e, f]) 1).run Tryz.prog w = .ok b w := by kernel_rfl
theorem fieldTok2 (w : World) (a b c d e f : Value) : (Instr.field 84 (.agg #[a, b, c, d, e, f]) 2).run Tryz.prog w = .ok c w := by kernel_rfl
theorem read_ok {w : World} {b : Nat} {t : List UInt8} {s : PS} (h : PM w b t s) {a : Int} (ha : -9223372036854775808 ≤ a ∧ a ≤ 9223372036854775807) :
    Calls Tryz.prog 29 #[.pointer (some ⟨b, 0, none⟩), .int .i64 a] w fun z w' => z = .returned (.tuple #[]) ∧ PM w' b t (s.read t a) ∧ Only (fun k => k = b) w w' := by
  have H := Lib.hid h
  have OK := Lib.hid (pok_ok h)
  have HA := Lib.hid ha
  unfold PS.read
  by_cases c : s.e = 0
  · rw [if_pos c]
    have q : (s.e == 0) = true := by simpa using c
    obtain ⟨b0, b1, b2, b3, b4, b5, b6, b7, b8, b9, bf⟩ := box10 h.box
    obtain ⟨M, hM⟩ := H.out.mx
    have nx := Next_ok hM H.out.tl HA.out
    have he := And.intro (nextF_end (t := t) (a := a)) (nextF_tok (t := t) (a := a))
    obtain ⟨⟨⟨kd, ss, nn, li, aa, ee⟩, e, el⟩, hr⟩ : ∃ r, nextF t a = r := ⟨_, rfl⟩
    rw [hr] at he nx ⊢
    have NX := Lib.hid nx
    have HE := Lib.hid he
    clear h ha hM nx he hr
    go_enter Tryz.func29, Tryz.ntmps29
    go_wp2_with fail
    refine OK.out.mono ?_
    rintro z w1 ⟨rfl, rfl⟩
    go_wp2_with fail
    refine NX.out.mono ?_
    rintro z w2 ⟨rfl, n2⟩
    have H2 := Lib.hid (H.out.on n2)
    have N2 := Lib.hid n2
    clear b0 b1 b2 b3 b4 b5 b6 b7 b8 b9 bf n2
    obtain ⟨b0, b1, b2, b3, b4, b5, b6, b7, b8, b9, bf⟩ := box10 H2.out.box
    unfold tokA fltA
    go_wp2_with fail
    obtain ⟨p1, o1⟩ := H2.out.set8 ⟨kd, ss, nn, li, aa, ee⟩ e el HE.out.1 HE.out.2 rfl
    refine bodyPost_end (results_none rfl _ _ _) rfl ⟨rfl, p1, N2.out.only.trans o1⟩
  · rw [if_neg c]
    have q : (s.e == 0) = false := by simpa using c
    clear h ha
    go_enter Tryz.func29, Tryz.ntmps29
    go_wp2_with fail
    refine OK.out.mono ?_
    rintro z w1 ⟨rfl, rfl⟩
    go_wp2_with fail
    go_end0
    exact ⟨rfl, H.out, Only.refl _⟩
theorem fail_ok {w : World} {b : Nat} {t : List UInt8} {s : PS} (h : PM w b t s) {e : Int} :
    Calls Tryz.prog 67 #[.pointer (some ⟨b, 0, none⟩), .int .i64 e] w fun z w' => z = .returned (.tuple #[]) ∧ PM w' b t (s.fail e) ∧ Only (fun k => k = b) w w' := by
  have H := Lib.hid h
  have OK := Lib.hid (pok_ok h)
  unfold PS.fail
  by_cases c : s.e = 0
  · rw [if_pos c]
    have q : (s.e == 0) = true := by simpa using c
    obtain ⟨b0, b1, b2, b3, b4, b5, b6, b7, b8, b9, bf⟩ := box10 h.box
    clear h
    go_enter Tryz.func67, Tryz.ntmps67
    go_wp2_with fail
    refine OK.out.mono ?_
    rintro z w1 ⟨rfl, rfl⟩
    go_wp2_with fail
    obtain ⟨p1, o1⟩ := H.out.set8b e s.w.line rfl
    refine bodyPost_end (results_none rfl _ _ _) rfl ⟨rfl, p1, o1⟩
  · rw [if_neg c]
    have q : (s.e == 0) = false := by simpa using c
    clear h
    go_enter Tryz.func67, Tryz.ntmps67
    go_wp2_with fail
    refine OK.out.mono ?_
    rintro z w1 ⟨rfl, rfl⟩
    go_wp2_with fail
    go_end0
    exact ⟨rfl, H.out, Only.refl _⟩
theorem is_ok {w : World} {b : Nat} {t : List UInt8} {s : PS} (h : PM w b t s) {v : Value} {l : List (List UInt8)} (hv : Strs w v l) (hn : l.length ≤ 9223372036854775807) :
    Calls Tryz.prog 32 #[.pointer (some ⟨b, 0, none⟩), v] w fun z w' => z = .returned (.bool (s.is l)) ∧ w' = w := by
  have CT := Lib.hid (Contains_ok hv hn s.w.s)
  obtain ⟨b0, b1, b2, b3, b4, b5, b6, b7, b8, b9, bf⟩ := box10 h.box
  unfold PS.is
  obtain ⟨y, hy⟩ : ∃ y, l.contains s.w.s = y := ⟨_, rfl⟩
  rw [hy] at CT ⊢
  clear h hv hy
  by_cases c4 : s.w.kind = 4
  · have q : ((s.w.kind : Int) == 4) = true := by simp [c4]
    simp only [c4, decide_true, Bool.true_or, Bool.true_and]
    go_enter Tryz.func32, Tryz.ntmps32
    go_wp2_with fail
    refine CT.out.mono ?_
    rintro z w1 ⟨rfl, rfl⟩
    go_wp2_with fail
    go_ret
    exact ⟨rfl, rfl⟩
  have q : ((s.w.kind : Int) == 4) = false := by simp; omega
  by_cases c3 : s.w.kind = 3
  · have q3 : ((s.w.kind : Int) == 3) = true := by simp [c3]
    simp only [c3, decide_true, Bool.or_true, Bool.true_and]
    go_enter Tryz.func32, Tryz.ntmps32
    go_wp2_with fail
    refine CT.out.mono ?_
    rintro z w1 ⟨rfl, rfl⟩
    go_wp2_with fail
    go_ret
    exact ⟨rfl, rfl⟩
  have q3 : ((s.w.kind : Int) == 3) = false := by simp; omega
  simp only [c3, c4, decide_false, Bool.or_self, Bool.false_and]
  go_enter Tryz.func32, Tryz.ntmps32
  go_wp2_with fail
  go_ret
  exact ⟨rfl, rfl⟩
theorem may_ok {w : World} {b : Nat} {t : List UInt8} {s : PS} (h : PM w b t s) {v : Value} {l : List (List UInt8)} (hv : Strs w v l) (hn : l.length ≤ 9223372036854775807) :
    Calls Tryz.prog 66 #[.pointer (some ⟨b, 0, none⟩), v] w fun z w' => (∃ x, z = .returned (.tuple #[.string x, .bool (s.is l)])) ∧ PM w' b t (s.may t l) ∧ Only (fun k => k = b) w w' := by
  have IS := Lib.hid (is_ok h hv hn)
  have RD := Lib.hid (read_ok h h.en)
  have H := Lib.hid h
  obtain ⟨b0, b1, b2, b3, b4, b5, b6, b7, b8, b9, bf⟩ := box10 h.box
  unfold PS.may
  obtain ⟨y, hy⟩ : ∃ y, s.is l = y := ⟨_, rfl⟩
  rw [hy] at IS ⊢
  clear h hv hy
  cases y with
  | true =>
    rw [if_pos rfl]
    go_enter Tryz.func66, Tryz.ntmps66
    go_wp2_with fail
    refine IS.out.mono ?_
    rintro z w1 ⟨rfl, rfl⟩
    go_wp2_with fail
    refine RD.out.mono ?_
    rintro z w2 ⟨rfl, p2, o2⟩
    have P2 := Lib.hid p2
    have O2 := Lib.hid o2
    clear p2 o2 b0 b1 b2 b3 b4 b5 b6 b7 b8 b9 bf
    go_wp2_with fail
    refine bodyPost_ret (v := .tuple #[.string ⟨s.w.s.toArray⟩, .bool true]) (by simp [results, Tryz.results66, go_sem]) rfl ⟨⟨_, rfl⟩, P2.out, O2.out⟩
  | false =>
    rw [if_neg (by simp)]
    go_enter Tryz.func66, Tryz.ntmps66
    go_wp2_with fail
    refine IS.out.mono ?_
    rintro z w1 ⟨rfl, rfl⟩
    go_wp2_with fail
    refine bodyPost_ret (v := .tuple #[.string ⟨#[]⟩, .bool false]) (by simp [results, Tryz.results66, go_sem]) rfl ⟨⟨_, rfl⟩, H.out, Only.refl _⟩
theorem strs_one (w : World) (x : List UInt8) (c : Nat) (hc : 1 ≤ c) (hm : c ≤ maxLen) (t : TypeId) : Strs (w.alloc (.cells #[.string ⟨x.toArray⟩] t)) (.slice (some ⟨w.heap.size, 0, none⟩) 1 c) [x] :=
  .inr ⟨w.heap.size, 0, c, rfl, hc, hm, by simp, fun i hi => by
    obtain rfl : i = 0 := by simpa using hi
    simp⟩
theorem must_ok {w : World} {b : Nat} {t : List UInt8} {s : PS} (h : PM w b t s) (x : List UInt8) :
    Calls Tryz.prog 34 #[.pointer (some ⟨b, 0, none⟩), .string ⟨x.toArray⟩] w fun z w' => z = .returned (.tuple #[]) ∧ PM w' b t (s.must t x) ∧ Only (fun k => k = b) w w' := by
  have MY := Lib.hid (fun (W : World) (hW : PM W b t s) (v : Value) (hv : Strs W v [x]) => may_ok hW hv (by simp))
  have H := Lib.hid h
  have e : s.must t x = if s.is [x] then s.may t [x] else s.fail 101 := by
    unfold PS.must PS.may
    split
    · rfl
    · rfl
  have e2 : s.is [x] = false → s.may t [x] = s := fun h => by unfold PS.may; rw [h]; rfl
  rw [e]
  obtain ⟨y, hy⟩ : ∃ y, s.is [x] = y := ⟨_, rfl⟩
  rw [hy] at MY e2 ⊢
  have E2 : Hid (y = false → s.may t [x] = s) := Lib.hid e2
  clear h e e2 hy
  have SO := Lib.hid (fun c h1 h2 ty => strs_one w x c h1 h2 ty)
  cases y with
  | true =>
    rw [if_pos rfl]
    go_enter Tryz.func34, Tryz.ntmps34
    go_wp2_with fail
    refine (MY.out _ (H.out.on ((Nw.refl w).alloc _)) _ (SO.out 1 (by omega) (by decide) _)).mono ?_
    rintro z w1 ⟨⟨x1, rfl⟩, p1, o1⟩
    have P1 := Lib.hid p1
    have O1 := Lib.hid (Only.trans (S := fun k => k = b) ((Nw.refl w).alloc _).only o1)
    clear p1 o1
    go_wp2_with fail
    go_end0
    exact ⟨rfl, P1.out, O1.out⟩
  | false =>
    rw [if_neg (by simp)]
    have FL := Lib.hid (fun (W : World) (hW : PM W b t s) => fail_ok hW (e := 101))
    go_enter Tryz.func34, Tryz.ntmps34
    go_wp2_with fail
    refine (MY.out _ (H.out.on ((Nw.refl w).alloc _)) _ (SO.out 1 (by omega) (by decide) _)).mono ?_
    rintro z w1 ⟨⟨x1, rfl⟩, p1, o1⟩
    rw [E2.out (by trivial)] at p1
    have P1 := Lib.hid p1
    have O1 := Lib.hid (Only.trans (S := fun k => k = b) ((Nw.refl w).alloc _).only o1)
    clear p1 o1
    go_wp2_with fail
    refine (FL.out _ P1.out).mono ?_
    rintro z w2 ⟨rfl, p2, o2⟩
    have P2 := Lib.hid p2
    have O2 := Lib.hid (O1.out.trans o2)
    clear p2 o2
    go_wp2_with fail
    go_end0
    exact ⟨rfl, P2.out, O2.out⟩
theorem word_ok {w : World} {b : Nat} {t : List UInt8} {s : PS} (h : PM w b t s) (k : Nat) (hk : k < 256) :
    Calls Tryz.prog 65 #[.pointer (some ⟨b, 0, none⟩), .int .u8 (k : Int)] w fun z w' => z = .returned (.agg (tokA (s.word t k).1)) ∧ PM w' b t (s.word t k).2 ∧ Only (fun k => k = b) w w' := by
  have H := Lib.hid h
  obtain ⟨b0, b1, b2, b3, b4, b5, b6, b7, b8, b9, bf⟩ := box10 h.box
  have RD := Lib.hid (fun (W : World) (hW : PM W b t s) => read_ok hW hW.en)
  have FL := Lib.hid (fun (W : World) (hW : PM W b t s) => fail_ok hW (e := 101))
  unfold PS.word
  have hbw := h.lt
  clear h
  by_cases c : s.w.kind = k
  · rw [if_pos c]
    have q : ((s.w.kind : Int) != (k : Int)) = false := by simp [c]
    go_enter Tryz.func65, Tryz.ntmps65
    go_wp2_with fail
    have TB := Lib.hid (two_blk w (tokA Tok.none) (tokA s.w) 84 84)
    subst c
    refine (RD.out ((w.alloc (.cells (tokA Tok.none) 84)).alloc (.cells (tokA s.w) 84)) (H.out.on TB.out.1)).mono ?_
    rintro z w2 ⟨rfl, p2, o2⟩
    have P2 := Lib.hid p2
    have O2 := Lib.hid (Only.trans (S := fun k => k = b) TB.out.1.only o2)
    have B0 := Lib.hid (o2.at_ TB.out.2.1 (by omega))
    have B1 := Lib.hid (o2.at_ TB.out.2.2 (by omega))
    clear p2 o2 b0 b1 b2 b3 b4 b5 b6 b7 b8 b9 bf RD FL TB
    obtain ⟨d0, d1, d2, d3, d4, d5, df⟩ := box6 B1.out
    obtain ⟨a0, a1, a2, a3, a4, a5, af⟩ := box6 B0.out
    go_wp2_with fail
    refine bodyPost_ret (v := .agg (tokA s.w)) (by simp [results, Tryz.results65, go_sem, a0, a1, a2, a3, a4, a5, tokA]) rfl ⟨rfl, ?_, ?_⟩
    · refine P2.out.off (S := fun k => k = w.heap.size) ?_ (by show ¬ b = w.heap.size; omega) (by show ¬ 0 = w.heap.size; have := H.out.pos; omega)
      repeat (first | with_reducible exact Only.refl _ | refine Only.put (S := fun k => k = w.heap.size) ?_ rfl _ _)
    · repeat (first | with_reducible exact O2.out | refine Only.put' ?_ (by omega) _ _)
  · rw [if_neg c]
    have q : ((s.w.kind : Int) != (k : Int)) = true := by simp; omega
    go_enter Tryz.func65, Tryz.ntmps65
    go_wp2_with fail
    have TB := Lib.hid (two_blk w (tokA Tok.none) (tokA s.w) 84 84)
    refine (FL.out ((w.alloc (.cells (tokA Tok.none) 84)).alloc (.cells (tokA s.w) 84)) (H.out.on TB.out.1)).mono ?_
    rintro z w2 ⟨rfl, p2, o2⟩
    have P2 := Lib.hid p2
    have O2 := Lib.hid (Only.trans (S := fun k => k = b) TB.out.1.only o2)
    have B0 := Lib.hid (o2.at_ TB.out.2.1 (by omega))
    clear p2 o2 b0 b1 b2 b3 b4 b5 b6 b7 b8 b9 bf RD FL TB
    obtain ⟨a0, a1, a2, a3, a4, a5, af⟩ := box6 B0.out
    go_wp2_with fail
    refine bodyPost_ret (v := .agg (tokA Tok.none)) (by simp [results, Tryz.results65, go_sem, a0, a1, a2, a3, a4, a5, tokA, Tok.none]) rfl ⟨rfl, ?_, ?_⟩
    · refine P2.out.off (S := fun k => k = w.heap.size) ?_ (by show ¬ b = w.heap.size; omega) (by show ¬ 0 = w.heap.size; have := H.out.pos; omega)
      repeat (first | with_reducible exact Only.refl _ | refine Only.put (S := fun k => k = w.heap.size) ?_ rfl _ _)
    · repeat (first | with_reducible exact O2.out | refine Only.put' ?_ (by omega) _ _)
theorem name_ok {w : World} {b : Nat} {t : List UInt8} {s : PS} (h : PM w b t s) :
    Calls Tryz.prog 35 #[.pointer (some ⟨b, 0, none⟩)] w fun z w' => z = .returned (.string ⟨(s.word t 2).1.s.toArray⟩) ∧ PM w' b t (s.word t 2).2 ∧ Only (fun k => k = b) w w' := by
  have WD := Lib.hid (word_ok h 2 (by omega))
  clear h
  go_enter Tryz.func35, Tryz.ntmps35
  go_wp2_with fail
  refine WD.out.mono ?_
  rintro z w1 ⟨rfl, p1, o1⟩
  have P1 := Lib.hid p1
  have O1 := Lib.hid o1
  clear p1 o1
  unfold tokA
  have F1 := fun (w : World) (a b c d e f : Value) => fieldTok1 w a b c d e f
  go_wp2_with fail
  go_ret
  exact ⟨rfl, P1.out, O1.out⟩
end Go.Proofs.YtcmaedoolinijaaGreatDoor

namespace Go.Proofs.YtcmaedoolinijaaGreatDoor
open Go Go.RowKit

abbrev Str := List UInt8
structure En where
  key : Str
  val : Value
  born : Nat
def En.entry (e : En) : MapEntry := { key := .string ⟨e.key.toArray⟩, val := e.val, born := e.born }
def ents (L : List En) : Array MapEntry := (L.map En.entry).toArray

theorem str_inj {a b : Str} (h : (⟨a.toArray⟩ : ByteArray) = ⟨b.toArray⟩) : a = b := by
  have := congrArg (fun x => x.data.toList) h; simpa using this

theorem sameNow_str (a b : Str) : Instr.sameNow .string (.string ⟨a.toArray⟩) (.string ⟨b.toArray⟩) = some (decide (a = b)) := by
  simp only [Instr.sameNow]
  congr 1
  by_cases h : a = b
  · subst h; simp only [decide_true]; exact (MapKept.bytes_beq _ _).2 rfl
  · simp only [h, decide_false]
    rw [Bool.eq_false_iff]
    exact fun e => h (str_inj ((MapKept.bytes_beq _ _).1 e))

theorem findNow_miss (k : Str) : ∀ (L : List En) (i : Nat), k ∉ L.map En.key → Instr.findNow .string (.string ⟨k.toArray⟩) (L.map En.entry) i = some none
  | [], _, _ => rfl
  | e :: L, i, h => by
    simp only [List.map_cons, List.mem_cons, not_or] at h
    simp only [List.map_cons, Instr.findNow, En.entry, sameNow_str, decide_eq_false h.1]
    exact findNow_miss k L (i + 1) h.2

theorem findNow_hit (k : Str) (e : En) (he : e.key = k) : ∀ (A B : List En) (i : Nat), k ∉ A.map En.key →
    Instr.findNow .string (.string ⟨k.toArray⟩) ((A ++ e :: B).map En.entry) i = some (some (i + A.length, e.val))
  | [], B, i, _ => by subst he; simp [Instr.findNow, En.entry, sameNow_str]
  | a :: A, B, i, h => by
    simp only [List.map_cons, List.mem_cons, not_or] at h
    simp only [List.cons_append, List.map_cons, Instr.findNow, En.entry, sameNow_str, decide_eq_false h.1]
    rw [findNow_hit k e he A B (i + 1) h.2]
    simp; omega
theorem split_key (k : Str) : ∀ (L : List En), k ∉ L.map En.key ∨ ∃ A e B, L = A ++ e :: B ∧ e.key = k ∧ k ∉ A.map En.key
  | [] => .inl (by simp)
  | a :: L => by
    by_cases h : a.key = k
    · exact .inr ⟨[], a, L, rfl, h, by simp⟩
    · rcases split_key k L with h1 | ⟨A, e, B, rfl, h2, h3⟩
      · exact .inl (by simp [h1, Ne.symm h])
      · exact .inr ⟨a :: A, e, B, rfl, h2, by simp [h3, Ne.symm h]⟩

def World.setBlk (w : World) (r : Nat) (o : Obj) : World := { w with heap := w.heap.setIfInBounds r o }
theorem setBlk_same {w : World} {r : Nat} {o o' : Obj} (h : w.heap[r]? = some o) : (World.setBlk w r o').heap[r]? = some o' := (MapKept.heap_set h).1
theorem setBlk_other {w : World} {r k : Nat} {o' : Obj} (h : k ≠ r) : (World.setBlk w r o').heap[k]? = w.heap[k]? := by
  simp [World.setBlk, Ne.symm h]
@[simp] theorem setBlk_size {w : World} {r : Nat} {o : Obj} : (World.setBlk w r o).heap.size = w.heap.size := by simp [World.setBlk]
theorem Only.setBlk {S : Nat → Prop} {w w' : World} (h : Only S w w') {r : Nat} (hp : r < w.heap.size → S r) (o : Obj) : Only S w (World.setBlk w' r o) :=
  h.trans' (T := fun k => k = r) ⟨rfl, rfl, rfl, by simp, fun k _ hn => setBlk_other hn⟩ (fun k hk e => by subst e; exact hp hk)

section
variable {P : Program} {w : World} {t kt et : TypeId} {m clock : Nat} {L : List En} {k : Str}

theorem run_checkStr (hk : P.underlying kt = some .string) (b : Bool) (k : Str) (w : World) : (Instr.checkKey b 10000 kt (.string ⟨k.toArray⟩)).run P w = .ok () w :=
  MapKept.run_checkKey (k := .string ⟨k.toArray⟩) hk (by simp [MapKept.IsKey]) b 9999

theorem run_look_miss (ht : P.underlying t = some (.map kt et)) (hk : P.underlying kt = some .string) {z : Value} (hz : (zeroValue et).run P w = .ok z w)
    (hb : w.heap[m]? = some (.map (ents L) clock)) (hn : k ∉ L.map En.key) :
    (Instr.lookup t (.map (some m)) (.string ⟨k.toArray⟩) false).run P w = .ok z w := by
  have h1 := MapKept.run_findKey (w := w) hk (findNow_miss k L 0 hn)
  have h2 := fun b => run_checkStr (w := w) hk b k
  simp [Instr.lookup, run_underlying ht, MapKept.run_getObj_map hb, h2, Result.andThen, ents, h1, hz]

theorem run_look_hit {A B : List En} {e : En} (ht : P.underlying t = some (.map kt et)) (hk : P.underlying kt = some .string)
    (hb : w.heap[m]? = some (.map (ents (A ++ e :: B)) clock)) (he : e.key = k) (hn : k ∉ A.map En.key) :
    (Instr.lookup t (.map (some m)) (.string ⟨k.toArray⟩) false).run P w = .ok e.val w := by
  have h1 := MapKept.run_findKey (w := w) hk (findNow_hit k e he A B 0 hn)
  have h2 := fun b => run_checkStr (w := w) hk b k
  unfold ents at hb
  generalize (A ++ e :: B).map En.entry = l at *
  simp [Instr.lookup, run_underlying ht, MapKept.run_getObj_map hb, h2, Result.andThen, h1]

theorem run_store_miss (ht : P.underlying t = some (.map kt et)) (hk : P.underlying kt = some .string) (hb : w.heap[m]? = some (.map (ents L) clock)) (hn : k ∉ L.map En.key) (v : Value) :
    (Instr.mapUpdate t (.map (some m)) (.string ⟨k.toArray⟩) v).run P w = .ok () (World.setBlk w m (.map (ents (L ++ [⟨k, v, clock⟩])) (clock + 1))) := by
  have h1 := MapKept.run_findKey (w := w) hk (findNow_miss k L 0 hn)
  have h2 := run_checkStr (w := w) hk false k
  simp [Instr.mapUpdate, run_underlying ht, MapKept.run_getObj_map hb, h2, Result.andThen, ents, h1, MapKept.run_setObj_map _ hb, World.setBlk, En.entry]

theorem run_store_hit {A B : List En} {e : En} (ht : P.underlying t = some (.map kt et)) (hk : P.underlying kt = some .string) (hb : w.heap[m]? = some (.map (ents (A ++ e :: B)) clock)) (he : e.key = k) (hn : k ∉ A.map En.key) (v : Value) :
    (Instr.mapUpdate t (.map (some m)) (.string ⟨k.toArray⟩) v).run P w = .ok () (World.setBlk w m (.map (ents (A ++ ⟨k, v, e.born⟩ :: B)) clock)) := by
  have h1 := MapKept.run_findKey (w := w) hk (findNow_hit k e he A B 0 hn)
  have h2 := run_checkStr (w := w) hk false k
  have h3 := MapKept.run_keyThatStays (P := P) (w := w) (d := .string) (k := .string ⟨k.toArray⟩) trivial
  subst he
  have hget : ((A ++ e :: B).map En.entry).toArray[A.length]? = some e.entry := by simp
  simp only [Instr.mapUpdate, Sem.run_bind, run_underlying ht, MapKept.run_getObj_map hb, h2, Result.andThen, ents, h1, Nat.zero_add, hget, Option.map_some, Option.getD_some]
  simp only [En.entry] at h3 ⊢
  simp only [h3, MapKept.run_setObj_map _ hb, World.setBlk]
  congr 3
  have hm : ∀ (X Y : List MapEntry) (f : MapEntry → MapEntry) (y : MapEntry), (X ++ y :: Y).toArray.modify X.length f = (X ++ f y :: Y).toArray := fun X Y f y => by
    apply Array.ext'
    rw [Array.toList_modify]
    simp [List.modify_eq_take_drop]
  have := hm (A.map En.entry) (B.map En.entry) (fun x => { key := .string ⟨e.key.toArray⟩, val := v, born := x.born }) e.entry
  rw [List.length_map] at this
  simpa [List.map_append, En.entry] using this

theorem run_len_map (ty : TypeId) (ht : P.underlying t = some (.map kt et)) (hb : w.heap[m]? = some (.map (ents L) clock)) :
    (Builtin.len_ #[t] ty #[.map (some m)]).run P w = .ok (.int .i64 L.length) w := by
  simp [Builtin.len_, run_underlying ht, MapKept.run_getObj_map hb, ents, goInt]

end
end Go.Proofs.YtcmaedoolinijaaGreatDoor

namespace Go.Proofs.YtcmaedoolinijaaGreatDoor
open Go Go.RowKit
structure DFile where
  bytes : List UInt8
  synced : Nat
structure Dsk where
  most : Int
  files : List (Str × DFile)
  arm : Int
  down : Bool

def setF : List (Str × DFile) → Str → DFile → List (Str × DFile)
  | [], n, f => [(n, f)]
  | (k, g) :: L, n, f => if k = n then (n, f) :: L else (k, g) :: setF L n f
def getF : List (Str × DFile) → Str → Option DFile
  | [], _ => none
  | (k, g) :: L, n => if k = n then some g else getF L n
def namesF (L : List (Str × DFile)) : List Str := L.map Prod.fst
def usedF (L : List (Str × DFile)) : Nat := (L.map fun x => x.2.bytes.length).sum

def okChar (c : UInt8) : Bool := (97 ≤ c && c ≤ 122) || (48 ≤ c && c ≤ 57) || c == 46 || c == 45
def okName (n : Str) : Bool := !n.isEmpty && decide (n.length ≤ 40) && n.all okChar
def Dsk.op (d : Dsk) (may : Int) (act : List (Str × DFile) → List (Str × DFile)) : Dsk × Int :=
  if d.down then (d, 15) else if may ≠ 0 then (d, may) else if d.arm = 0 then ({ d with arm := -1, down := true }, 15)
  else ({ d with files := act d.files, arm := max (d.arm - 1) (-1) }, 0)

def Dsk.there (d : Dsk) (n : Str) : Int := if n ∈ namesF d.files then 0 else 13
def fileOf (L : List (Str × DFile)) (n : Str) : DFile := (getF L n).getD ⟨[], 0⟩
def Dsk.mayAppend (d : Dsk) (n : Str) (l : List UInt8) : Int :=
  if okName n then (if d.most < (usedF d.files + l.length : Nat) ∨ (n ∉ namesF d.files ∧ 200 ≤ d.files.length) then 5 else 0) else 13
def Dsk.append (d : Dsk) (n : Str) (l : List UInt8) : Dsk × Int :=
  d.op (d.mayAppend n l) fun L => setF L n ⟨(fileOf L n).bytes ++ l, (fileOf L n).synced⟩
def Dsk.mayCut (d : Dsk) (n : Str) (k : Int) : Int :=
  match getF d.files n with
  | none => 13
  | some f => if k < 0 ∨ (f.bytes.length : Int) < k then 2 else 0
def Dsk.cut (d : Dsk) (n : Str) (k : Int) : Dsk × Int :=
  d.op (d.mayCut n k) fun L => setF L n ⟨(fileOf L n).bytes.take k.toNat, k.toNat⟩
def Dsk.read (d : Dsk) (n : Str) : List UInt8 × Int :=
  if d.down then ([], 15) else match getF d.files n with
  | none => ([], 13)
  | some f => (f.bytes, 0)
def Dsk.list (d : Dsk) : List Str := (namesF d.files).mergeSort fun x y => decide (x ≤ y)
def leaves (f : DFile) (keep : Int) : DFile :=
  let k := f.synced + min keep.toNat (f.bytes.length - f.synced)
  ⟨f.bytes.take k, k⟩
structure Dsk.Ok (d : Dsk) : Prop where
  most0 : 0 ≤ d.most
  most1 : d.most ≤ 16777216
  arm0 : -1 ≤ d.arm
  arm1 : d.arm ≤ 9223372036854775807
  names : (namesF d.files).Nodup
  named : ∀ n ∈ namesF d.files, okName n = true
  few : d.files.length ≤ 200
  used : (usedF d.files : Int) ≤ d.most
  synced : ∀ x ∈ d.files, x.2.synced ≤ x.2.bytes.length

section
variable {L A B : List (Str × DFile)} {n : Str} {f g : DFile}
end
def u8 (c : UInt8) : Value := .int .u8 c.toNat
abbrev Bs (w : World) (v : Value) (l : List UInt8) : Prop := Rd u8 w v l
structure FE where
  name : Str
  file : DFile
  fb : Nat
  sl : Value
  born : Nat
def FE.en (f : FE) : En := ⟨f.name, .pointer (some ⟨f.fb, 0, none⟩), f.born⟩
end Go.Proofs.YtcmaedoolinijaaGreatDoor

namespace Go.Proofs.YtcmaedoolinijaaGreatDoor
open Go Go.ChangeShapes Go.WideShapes Go.RowKit
section
variable {H : Type} {enc : TypeId × Value → H} {P : Program} {W : World}
theorem u8_of_int {z : Int} (h : (Lit.int .u8 z).wf = true) : z = ((UInt8.ofNat z.toNat).toNat : Int) := by
  simp only [Lit.wf, Bool.and_eq_true, decide_eq_true_eq] at h
  have h1 : 0 ≤ z := by have := h.1; rwa [show IntKind.u8.min = 0 from rfl] at this
  have h2 : z ≤ 255 := by have := h.2; rwa [show IntKind.u8.max = 255 from rfl] at this
  rw [UInt8.toNat_ofNat']
  omega
end
end Go.Proofs.YtcmaedoolinijaaGreatDoor

namespace Go.Proofs.YtcmaedoolinijaaGreatDoor
open Go Go.ChangeShapes Go.WideShapes Go.RowKit Go.Deep
def RdK {α : Type} (k : Nat) (R : List Value → α → Prop) (w : World) (v : Value) (l : List α) : Prop :=
  (∃ a, v = .slice a 0 0 ∧ l = []) ∨ ∃ g o cap, v = .slice (some ⟨g, o, none⟩) l.length cap ∧ l.length ≤ cap ∧ cap ≤ maxLen ∧ g < w.heap.size ∧
    ∀ i (h : i < l.length), ∃ cs : List Value, cs.length = k ∧ (∀ j (hj : j < cs.length), w.cell? ⟨g, o + i * k + j, none⟩ = some cs[j]) ∧ R cs l[i]

theorem RdK.nw {α : Type} {k : Nat} {R : List Value → α → Prop} {w w' : World} {v : Value} {l : List α} (h : RdK k R w v l) (ho : Nw w w') : RdK k R w' v l := by
  rcases h with h | ⟨g, o, cap, rfl, h1, h2, hg, h3⟩
  · exact .inl h
  · refine .inr ⟨g, o, cap, rfl, h1, h2, Nat.lt_of_lt_of_le hg ho.size, fun i hi => ?_⟩
    obtain ⟨cs, hk, hc, hr⟩ := h3 i hi
    exact ⟨cs, hk, fun j hj => ho.cell (hc j hj), hr⟩
theorem RdK.len {α : Type} {k : Nat} {R : List Value → α → Prop} {w : World} {v : Value} {l : List α} (h : RdK k R w v l) : ∃ a cap, v = .slice a l.length cap ∧ l.length ≤ cap ∧ cap ≤ maxLen ∧
    ∀ i (h : i < l.length), ∃ g o, a = some ⟨g, o, none⟩ ∧ g < w.heap.size ∧ ∃ cs : List Value, cs.length = k ∧ (∀ j (hj : j < cs.length), w.cell? ⟨g, o + i * k + j, none⟩ = some cs[j]) ∧ R cs l[i] := by
  rcases h with ⟨a, rfl, rfl⟩ | ⟨g, o, cap, rfl, h1, h2, hg, h3⟩
  · exact ⟨_, _, rfl, by simp, by simp, fun i hi => absurd hi (by simp)⟩
  · exact ⟨_, _, rfl, h1, h2, fun i hi => ⟨g, o, rfl, hg, h3 i hi⟩⟩
theorem RdK.rd {α : Type} {f : α → Value} {R : List Value → α → Prop} {w : World} {v : Value} {l : List α} (h : RdK 1 R w v l) (hR : ∀ cs x, R cs x → cs = [f x]) : Rd f w v l := by
  rcases h with h | ⟨g, o, cap, rfl, h1, h2, hg, h3⟩
  · exact .inl h
  · refine .inr ⟨g, o, cap, rfl, h1, h2, hg, fun i hi => ?_⟩
    obtain ⟨cs, hk, hc, hr⟩ := h3 i hi
    obtain rfl := hR _ _ hr
    simpa using hc 0 (by simp)

theorem list_of {α : Type} {p : Nat → α → Prop} : ∀ n : Nat, (∀ i, i < n → ∃ x, p i x) → ∃ l : List α, l.length = n ∧ ∀ i (h : i < l.length), p i l[i]
  | 0, _ => ⟨[], rfl, fun i h => absurd h (by simp)⟩
  | n + 1, h => by
    obtain ⟨l, hl, hp⟩ := list_of n (fun i hi => h i (Nat.lt_succ_of_lt hi))
    obtain ⟨x, hx⟩ := h n (Nat.lt_succ_self n)
    refine ⟨l ++ [x], by simp [hl], fun i hi => ?_⟩
    by_cases hlt : i < l.length
    · rw [List.getElem_append_left hlt]; exact hp i hlt
    · have : i = n := by simp [hl] at hi hlt; omega
      subst this
      rw [List.getElem_append_right (by omega)]
      simpa using hx

theorem spot_of_cell {w : World} {a : Addr} {v : Value} (h : w.cell? a = some v) : a.spot = none := by
  unfold World.cell? at h
  split at h
  · split at h
    · cases h
    · rename_i hs; simpa using hs
  · cases h
theorem addp (g o n : Nat) : (⟨g, o, none⟩ : Addr).add n = ⟨g, o + n, none⟩ := by
  unfold Addr.add
  split
  · rename_i h; subst h; rfl
  · rfl

section
variable {H : Type} {enc : TypeId × Value → H} {P : Program} {W : World}
def Opener {α : Type} (enc : TypeId × Value → H) (P : Program) (W : World) (t : TypeId) (R : List Value → α → Prop) : Prop :=
  ∀ (fuel : Nat) (cs : List Value) (x : DataW H × List MemPlace), DataW.trod enc P W 0 (fun _ => true) true fuel t cs = some x → ∃ y, R cs y

theorem Opener.slice {α : Type} {R : List Value → α → Prop} {t e : TypeId} {k : Nat} (ht : P.underlying t = some (.slice e)) (hc : P.cellsOf e = k) (hk : 0 < k) (h : Opener enc P W e R) :
    Opener enc P W t (fun cs (l : List α) => ∃ v, cs = [v] ∧ RdK k R W v l) := by
  intro fuel cs x hx
  subst hc
  rcases open_slice ht hx with ⟨rfl, rfl⟩ | ⟨a, len, cap, m, n, D, Pl, rfl, hb, hl, hm, hmm, rfl, hel⟩
  · exact ⟨[], _, rfl, .inl ⟨none, rfl, rfl⟩⟩
  · simp only [if_true] at hmm
    subst hmm
    by_cases h0 : m = 0
    · subst h0
      obtain rfl : len = 0 := by omega
      exact ⟨[], _, rfl, .inl ⟨some a, rfl, rfl⟩⟩
    · obtain ⟨g, o, sp⟩ := a
      obtain ⟨c0, hc0, -⟩ := hel 0 (by omega)
      obtain ⟨-, hl0, hat0⟩ := World.cells?_some hc0
      have h00 := hat0 0 hk
      rw [List.getElem?_eq_getElem (by omega)] at h00
      rw [Nat.zero_mul] at h00
      have hsp : sp = none := spot_of_cell h00
      subst hsp
      have hg : g < W.heap.size := World.block_lt_of_cell? _ _ h00
      obtain ⟨l, hll, hp⟩ := list_of (p := fun i (y : α) => ∃ cs : List Value, cs.length = P.cellsOf e ∧ (∀ j (hj : j < cs.length), W.cell? ⟨g, o + i * P.cellsOf e + j, none⟩ = some cs[j]) ∧ R cs y) len (fun i hi => by
        obtain ⟨cs', hcs, htr⟩ := hel i (by omega)
        obtain ⟨y, hy⟩ := h _ _ _ htr
        obtain ⟨-, hl', hat⟩ := World.cells?_some hcs
        refine ⟨y, cs', hl', fun j hj => ?_, hy⟩
        have := hat j (by omega)
        rw [List.getElem?_eq_getElem hj, addp, addp] at this
        exact this)
      subst hll
      exact ⟨l, _, rfl, .inr ⟨g, o, m, rfl, hl, hm, hg, hp⟩⟩

theorem Opener.imp {α β : Type} {R : List Value → α → Prop} {R' : List Value → β → Prop} {t : TypeId} (h : Opener enc P W t R) (hi : ∀ cs x, R cs x → ∃ y, R' cs y) : Opener enc P W t R' := by
  intro fuel cs x hx
  obtain ⟨y, hy⟩ := h _ _ _ hx
  exact hi _ _ hy
theorem Opener.int {t : TypeId} {k : IntKind} (ht : P.underlying t = some (.int k)) : Opener enc P W t (fun cs (z : Int) => cs = [.int k z] ∧ (Lit.int k z).wf = true) := by
  intro fuel cs x hx
  obtain ⟨z, rfl, -, hw⟩ := DataW.trod_int ht hx
  exact ⟨z, rfl, hw⟩
def isU8 (cs : List Value) (c : UInt8) : Prop := cs = [u8 c]
def isI64 (cs : List Value) (z : Int) : Prop := cs = [.int .i64 z] ∧ -9223372036854775808 ≤ z ∧ z ≤ 9223372036854775807
def isStr (cs : List Value) (s : Str) : Prop := cs = [.string ⟨s.toArray⟩] ∧ s.length ≤ 9223372036854775807
def isBool (cs : List Value) (b : Bool) : Prop := cs = [.bool b]
def isBs (W : World) (cs : List Value) (l : List UInt8) : Prop := ∃ v, cs = [v] ∧ Bs W v l
theorem Opener.u8 {t : TypeId} (ht : P.underlying t = some (.int .u8)) : Opener enc P W t isU8 :=
  (Opener.int ht).imp fun cs z ⟨h, hw⟩ => ⟨UInt8.ofNat z.toNat, by rw [isU8, h, Go.Proofs.YtcmaedoolinijaaGreatDoor.u8, ← u8_of_int hw]⟩
theorem Opener.i64 {t : TypeId} (ht : P.underlying t = some (.int .i64)) : Opener enc P W t isI64 :=
  (Opener.int ht).imp fun cs z ⟨h, hw⟩ => ⟨z, h, by
    simp only [Lit.wf, Bool.and_eq_true, decide_eq_true_eq] at hw
    have h1 := hw.1
    have h2 := hw.2
    rw [show IntKind.i64.min = -9223372036854775808 from rfl] at h1
    rw [show IntKind.i64.max = 9223372036854775807 from rfl] at h2
    exact ⟨h1, h2⟩⟩
theorem Opener.str {t : TypeId} (ht : P.underlying t = some .string) : Opener enc P W t isStr := by
  intro fuel cs x hx
  obtain ⟨s, rfl, -, hs⟩ := DataW.trod_string ht hx
  refine ⟨s.data.toList, ?_, ?_⟩
  · simp
  · unfold maxLen at hs
    simpa using hs
theorem Opener.bool {t : TypeId} (ht : P.underlying t = some .bool) : Opener enc P W t isBool := by
  intro fuel cs x hx
  obtain ⟨b, rfl, -⟩ := DataW.trod_bool ht hx
  exact ⟨b, rfl⟩
theorem Opener.bytes {t e : TypeId} (ht : P.underlying t = some (.slice e)) (he : P.underlying e = some (.int .u8)) (hc : P.cellsOf e = 1) : Opener enc P W t (isBs W) :=
  (Opener.slice ht hc (by omega) (Opener.u8 he)).imp fun _ _ ⟨v, hv, h⟩ => ⟨_, v, hv, h.rd fun _ _ h => h⟩
theorem open_arg {α : Type} {R : List Value → α → Prop} {t : TypeId} {v : Value} {d : DataW H} {ps : List MemPlace} (ho : Opener enc P W t R) (h : DataW.Trod enc P W 0 (fun _ => true) true t v d ps) : ∃ y, R v.cells.toList y := by
  obtain ⟨fuel, hf⟩ := h
  exact ho _ _ _ hf
theorem one_of_slice {r : Reach} {b0 : Nat} {t e : TypeId} {v u : Value} (ht : P.underlying t = some (.slice e)) (hval : Value.okWide P W r b0 t v) (h : v.cells.toList = [u]) : u = v := by
  have hv : ∀ xs, v ≠ .agg xs := fun xs hx => by subst hx; simp [Value.okWide, ht, Cell.okWide, Cell.ok] at hval
  cases v <;> simp_all [Value.cells]
theorem one_of_string {r : Reach} {b0 : Nat} {t : TypeId} {v u : Value} (ht : P.underlying t = some .string) (hval : Value.okWide P W r b0 t v) (h : v.cells.toList = [u]) : u = v := by
  have hv : ∀ xs, v ≠ .agg xs := fun xs hx => by subst hx; simp [Value.okWide, ht, Cell.okWide, Cell.ok] at hval
  cases v <;> simp_all [Value.cells]
theorem arg_slice {α : Type} {R : List Value → α → Prop} {r : Reach} {b0 : Nat} {t e : TypeId} {k : Nat} {v : Value} {d : DataW H} {ps : List MemPlace} (ht : P.underlying t = some (.slice e)) (hc : P.cellsOf e = k) (hk : 0 < k) (ho : Opener enc P W e R)
    (hval : Value.okWide P W r b0 t v) (h : DataW.Trod enc P W 0 (fun _ => true) true t v d ps) : ∃ l, RdK k R W v l := by
  obtain ⟨l, u, hu, hr⟩ := open_arg (Opener.slice ht hc hk ho) h
  obtain rfl := one_of_slice ht hval hu
  exact ⟨l, hr⟩
theorem arg_str {r : Reach} {b0 : Nat} {t : TypeId} {v : Value} {d : DataW H} {ps : List MemPlace} (ht : P.underlying t = some .string)
    (hval : Value.okWide P W r b0 t v) (h : DataW.Trod enc P W 0 (fun _ => true) true t v d ps) : ∃ s : Str, v = .string ⟨s.toArray⟩ ∧ s.length ≤ 9223372036854775807 := by
  obtain ⟨s, hs, hl⟩ := open_arg (Opener.str ht) h
  exact ⟨s, (one_of_string ht hval hs).symm, hl⟩
theorem Opener.struct2 {α0 α1 : Type} {R0 : List Value → α0 → Prop} {R1 : List Value → α1 → Prop} {t : TypeId} {f0 f1 : Field} (hs : P.underlying t = some (.struct #[f0, f1])) (hone : oneCellFields P #[f0, f1] = true) (hC : P.cellsOf t = 2) (h0 : Opener enc P W f0.type R0) (h1 : Opener enc P W f1.type R1) :
    Opener enc P W t (fun cs (x : α0 × α1) => ∃ v0 v1, cs = [v0, v1] ∧ R0 [v0] x.1 ∧ R1 [v1] x.2) := by
  intro fuel cs x hx
  obtain ⟨xs, n, _, _, hcl, hlen, hg⟩ := DataW.trod_struct hs hx
  rw [hC] at hcl
  obtain ⟨o0, k0⟩ := hone_of hone 0 f0 rfl
  obtain ⟨o1, k1⟩ := hone_of hone 1 f1 rfl
  match cs, hcl with
  | [c0, c1], _ =>
    match xs, hlen with
    | [y0, y1], _ =>
      have g0 := hg 0 f0 rfl
      rw [o0, k0] at g0
      obtain ⟨z0, e0⟩ := h0 n [c0] y0 (by simpa using g0)
      have g1 := hg 1 f1 rfl
      rw [o1, k1] at g1
      obtain ⟨z1, e1⟩ := h1 n [c1] y1 (by simpa using g1)
      exact ⟨(z0, z1), c0, c1, rfl, e0, e1⟩
theorem Opener.struct3 {α0 α1 α2 : Type} {R0 : List Value → α0 → Prop} {R1 : List Value → α1 → Prop} {R2 : List Value → α2 → Prop} {t : TypeId} {f0 f1 f2 : Field} (hs : P.underlying t = some (.struct #[f0, f1, f2])) (hone : oneCellFields P #[f0, f1, f2] = true) (hC : P.cellsOf t = 3) (h0 : Opener enc P W f0.type R0) (h1 : Opener enc P W f1.type R1) (h2 : Opener enc P W f2.type R2) :
    Opener enc P W t (fun cs (x : α0 × α1 × α2) => ∃ v0 v1 v2, cs = [v0, v1, v2] ∧ R0 [v0] x.1 ∧ R1 [v1] x.2.1 ∧ R2 [v2] x.2.2) := by
  intro fuel cs x hx
  obtain ⟨xs, n, _, _, hcl, hlen, hg⟩ := DataW.trod_struct hs hx
  rw [hC] at hcl
  obtain ⟨o0, k0⟩ := hone_of hone 0 f0 rfl
  obtain ⟨o1, k1⟩ := hone_of hone 1 f1 rfl
  obtain ⟨o2, k2⟩ := hone_of hone 2 f2 rfl
  match cs, hcl with
  | [c0, c1, c2], _ =>
    match xs, hlen with
    | [y0, y1, y2], _ =>
      have g0 := hg 0 f0 rfl
      rw [o0, k0] at g0
      obtain ⟨z0, e0⟩ := h0 n [c0] y0 (by simpa using g0)
      have g1 := hg 1 f1 rfl
      rw [o1, k1] at g1
      obtain ⟨z1, e1⟩ := h1 n [c1] y1 (by simpa using g1)
      have g2 := hg 2 f2 rfl
      rw [o2, k2] at g2
      obtain ⟨z2, e2⟩ := h2 n [c2] y2 (by simpa using g2)
      exact ⟨(z0, z1, z2), c0, c1, c2, rfl, e0, e1, e2⟩
theorem Opener.struct5 {α0 α1 α2 α3 α4 : Type} {R0 : List Value → α0 → Prop} {R1 : List Value → α1 → Prop} {R2 : List Value → α2 → Prop} {R3 : List Value → α3 → Prop} {R4 : List Value → α4 → Prop} {t : TypeId} {f0 f1 f2 f3 f4 : Field} (hs : P.underlying t = some (.struct #[f0, f1, f2, f3, f4])) (hone : oneCellFields P #[f0, f1, f2, f3, f4] = true) (hC : P.cellsOf t = 5) (h0 : Opener enc P W f0.type R0) (h1 : Opener enc P W f1.type R1) (h2 : Opener enc P W f2.type R2) (h3 : Opener enc P W f3.type R3) (h4 : Opener enc P W f4.type R4) :
    Opener enc P W t (fun cs (x : α0 × α1 × α2 × α3 × α4) => ∃ v0 v1 v2 v3 v4, cs = [v0, v1, v2, v3, v4] ∧ R0 [v0] x.1 ∧ R1 [v1] x.2.1 ∧ R2 [v2] x.2.2.1 ∧ R3 [v3] x.2.2.2.1 ∧ R4 [v4] x.2.2.2.2) := by
  intro fuel cs x hx
  obtain ⟨xs, n, _, _, hcl, hlen, hg⟩ := DataW.trod_struct hs hx
  rw [hC] at hcl
  obtain ⟨o0, k0⟩ := hone_of hone 0 f0 rfl
  obtain ⟨o1, k1⟩ := hone_of hone 1 f1 rfl
  obtain ⟨o2, k2⟩ := hone_of hone 2 f2 rfl
  obtain ⟨o3, k3⟩ := hone_of hone 3 f3 rfl
  obtain ⟨o4, k4⟩ := hone_of hone 4 f4 rfl
  match cs, hcl with
  | [c0, c1, c2, c3, c4], _ =>
    match xs, hlen with
    | [y0, y1, y2, y3, y4], _ =>
      have g0 := hg 0 f0 rfl
      rw [o0, k0] at g0
      obtain ⟨z0, e0⟩ := h0 n [c0] y0 (by simpa using g0)
      have g1 := hg 1 f1 rfl
      rw [o1, k1] at g1
      obtain ⟨z1, e1⟩ := h1 n [c1] y1 (by simpa using g1)
      have g2 := hg 2 f2 rfl
      rw [o2, k2] at g2
      obtain ⟨z2, e2⟩ := h2 n [c2] y2 (by simpa using g2)
      have g3 := hg 3 f3 rfl
      rw [o3, k3] at g3
      obtain ⟨z3, e3⟩ := h3 n [c3] y3 (by simpa using g3)
      have g4 := hg 4 f4 rfl
      rw [o4, k4] at g4
      obtain ⟨z4, e4⟩ := h4 n [c4] y4 (by simpa using g4)
      exact ⟨(z0, z1, z2, z3, z4), c0, c1, c2, c3, c4, rfl, e0, e1, e2, e3, e4⟩
end
end Go.Proofs.YtcmaedoolinijaaGreatDoor

namespace Go.Proofs.YtcmaedoolinijaaGreatDoor
set_option maxRecDepth 100000
open Go Go.Lib
inductive Ex where
  | mk (kind : Nat) (s : List UInt8) (n : Int) (kids : List Ex)
def Ex.kind : Ex → Nat | .mk k _ _ _ => k
def Ex.s : Ex → List UInt8 | .mk _ s _ _ => s
def Ex.n : Ex → Int | .mk _ _ n _ => n
def Ex.kids : Ex → List Ex | .mk _ _ _ l => l
structure InsP where
  do_ : Nat
  op : Nat
  obj : Int
  into : Int
  «to» : Int
  n : Int
  args : List Ex
structure TextP where
  name : List UInt8
  locals : List (List UInt8)
  code : List InsP
structure CodeP where
  objs : List Dcl
  threads : List TextP
def exB (nl k : Nat) (s : List UInt8) (n : Int) (kids : Nat) : Bool :=
  if k = 1 then decide (kids = 0) && decide (s = []) && decide (0 ≤ n)
  else if k = 2 then decide (kids = 0) && decide (0 ≤ n) && decide (n < nl) && nameB s
  else if k = 3 then decide (n = 0) && (decide (kids = 1) && decide (s = [45]) || decide (kids = 2) && [[43], [45], [42], [61, 61], [60]].contains s)
  else false
mutual
def exprR (nl : Nat) : Ex → Int → Int → Bool × Int
  | .mk k s n kids, deep, left => if left - 1 < 0 ∨ deep > 20 then (false, left - 1) else
    let r := kidsR nl kids (deep + 1) (left - 1)
    if r.1 then (exB nl k s n kids.length, r.2) else r
def kidsR (nl : Nat) : List Ex → Int → Int → Bool × Int
  | [], _, left => (true, left)
  | e :: l, deep, left => let r := exprR nl e deep left
    if r.1 then kidsR nl l deep r.2 else r
end
def soundB (nl : Nat) (e : Ex) : Bool := (exprR nl e 1 1000).1
def objB (os : List Dcl) (d : Dcl) : Bool :=
  if d.kind = 1 ∨ d.kind = 2 ∨ d.kind = 6 ∨ d.kind = 7 then decide (d.n = 0)
  else if d.kind = 3 ∨ d.kind = 8 then decide (1 ≤ d.n) && decide (d.n ≤ 1048576)
  else if d.kind = 5 then decide (1 ≤ d.n) && decide (d.n ≤ 16)
  else if d.kind = 4 then decide (0 ≤ d.n) && decide (d.n < os.length) && decide ((os.map (·.kind))[d.n.toNat]?.getD 0 = 1)
  else decide (d.kind = 9)
def kindAt (os : List Dcl) (i : Int) : Nat := (os.map (·.kind))[i.toNat]?.getD 0
def doesObjs (kind : Nat) : List Dcl :=
  if kind = 3 ∨ kind = 8 ∨ kind = 5 then [⟨kind, [97], 1, [], 0⟩]
  else if kind = 4 then [⟨1, [98], 0, [], 0⟩, ⟨4, [97], 0, [98], 0⟩] else [⟨kind, [97], 0, [], 0⟩]
def doesB (kind op nargs : Nat) (into local_ : Bool) : Bool :=
  decide ((checkF (doesObjs kind) [⟨[97], [⟨op, [97], if into then [97] else [], nargs, 0⟩], 0⟩]).1 = 0) && (!into || local_)
def mayB (os : List Dcl) (t : TextP) (x : InsP) : Bool :=
  let local_ := decide (0 ≤ x.into) && decide (x.into < t.locals.length)
  let to_ := decide (0 ≤ x.to) && decide (x.to ≤ t.code.length)
  let obj := decide (0 ≤ x.obj) && decide (x.obj < os.length)
  if x.do_ = 1 then obj && doesB (kindAt os x.obj) x.op x.args.length (decide (x.into ≠ -1)) local_ && (decide (x.op ≠ 16) || to_)
  else if x.do_ = 2 then obj && decide (kindAt os x.obj = 6)
  else if x.do_ = 3 then local_ && decide (x.args.length = 1)
  else if x.do_ = 4 then to_ && decide (x.args.length = 1)
  else if x.do_ = 5 then to_
  else if x.do_ = 6 then local_
  else if x.do_ = 7 then local_ && to_
  else false
def textB (os : List Dcl) (t : TextP) : Bool := decide (t.locals.length ≤ 120) && decide (t.code.length ≤ 4000) && t.code.all fun x => mayB os t x && x.args.all (soundB t.locals.length)
def codeB (c : CodeP) : Bool := decide (c.objs.length ≤ 64) && decide (c.threads.length ≤ 16) && c.objs.all (objB c.objs) && c.threads.all (textB c.objs)
def insOf (os : List Dcl) (s : Fs) : InsP := ⟨1, s.op, (os.findIdx fun d => d.name = s.obj : Nat), -1, 0, 0, []⟩
def codeOf (os : List Dcl) (ts : List Thr) : CodeP := ⟨os, ts.map fun t => ⟨t.name, [], t.body.map (insOf os)⟩⟩
def madeF (t : List UInt8) : CodeP := match parseF t with | some (os, ts, _) => codeOf os ts | none => ⟨[], []⟩
end Go.Proofs.YtcmaedoolinijaaGreatDoor
