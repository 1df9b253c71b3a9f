/-
  Texts merged by a program of this claim's: DiskF, DiskG, DiskH.
-/
import Derived.Test.YtkhcdbafcigeoaaDoorM4
import Derived.Lib.SliceRun
/-
  How many bytes a disk has; reading a file.
-/
namespace Go.Proofs.YtkhcdbafcigeoaaDoor
open Go Go.RowKit Go.Sort
set_option maxRecDepth 100000
set_option maxHeartbeats 400000

def sizeOfN (d : Dsk) (n : Str) : Nat := (fileOf d.files n).bytes.length

theorem mem_le_sum (l : List Nat) : ∀ k, (l.take k).sum ≤ l.sum := by
  intro k
  have := List.sum_append (l₁ := l.take k) (l₂ := l.drop k)
  rw [List.take_append_drop] at this
  omega

def sumTo (d : Dsk) (l : List Str) (k : Nat) : Nat := ((l.take k).map (sizeOfN d)).sum
theorem sumTo_succ (d : Dsk) (l : List Str) (k : Nat) (h : k < l.length) : sumTo d l (k + 1) = sumTo d l k + sizeOfN d l[k] := by
  unfold sumTo
  rw [List.take_succ_eq_append_getElem h, List.map_append, List.sum_append]; simp
theorem sumTo_le (d : Dsk) (l : List Str) (k : Nat) : sumTo d l k ≤ (l.map (sizeOfN d)).sum := by
  unfold sumTo; rw [List.map_take]; exact mem_le_sum _ _

theorem Used_ok {w : World} {b : Nat} {d : Dsk} {S : Nat → Prop} (h : DiskIn w b d S) :
    Calls Tryd.prog 28 #[.pointer (some ⟨b, 0, none⟩)] w fun e w' => e = .returned (.int .i64 (usedF d.files)) ∧ Nw w w' := by
  have hu := used_list h.ok
  have hm := h.ok.most1
  have hus := h.ok.used
  have hbound : usedF d.files ≤ 16777216 := by omega
  have hL := Lib.hid (List_ok h)
  have HU := Lib.hid hu
  have hlen : d.list.length ≤ 200 := by
    have := h.ok.few
    have hp : d.list.Perm (namesF d.files) := List.mergeSort_perm _ _
    rw [hp.length_eq]; simpa [namesF] using this
  have H := Lib.hid h
  clear h hu hm hus
  go_enter Tryd.func28, Tryd.ntmps28
  go_wp2_with (go_at_call 31; refine hL.out.mono ?_)
  rintro e w1 ⟨v, rfl, hss, hw1, hfresh⟩
  generalize hl : d.list = l at *
  have HL2 := Lib.hid hl; clear hl
  obtain ⟨sa, cap, rfl, h1, h2, hel⟩ := hss.elems
  have HE := Lib.hid hel
  have HD1 := Lib.hid (H.out.nw hw1)
  clear hss hel
  go_wp2
  go_loopw [3, 9] (fun n i wr => ∃ k : Nat, k ≤ l.length ∧ i = .int .i64 k ∧ n = .int .i64 (sumTo d l k) ∧ Nw w1 wr) (fun _ i _ => l.length - (intOf i).toNat)
  case atStart => exact ⟨0, Nat.zero_le _, rfl, rfl, Nw.refl _⟩
  case round =>
    obtain ⟨k, hk, rfl, rfl, hwr⟩ := hrel
    by_cases hlt : k < l.length
    · obtain ⟨g, o, rfl, hg, hc⟩ := HE.out k hlt
      have hc' := hwr.cell hc
      have hs := Lib.hid (Size_ok (HD1.out.nw hwr) l[k])
      have e2 : (l.map (sizeOfN d)).sum = usedF d.files := by rw [← HU.out]; rfl
      have e1 := sumTo_le d l (k + 1)
      have e3 := sumTo_succ d l k hlt
      rw [e2, e3] at e1
      have hb1 : sumTo d l k + sizeOfN d l[k] ≤ 16777216 := Nat.le_trans e1 hbound
      clear e2 e1
      have hb0 : (fileOf d.files l[k]).bytes.length = sizeOfN d l[k] := rfl
      have HB0 := Lib.hid hb0
      have HE3 := Lib.hid e3
      clear hb0 hc e3
      go_wp2_with (go_at_call 26; refine hs.out.mono ?_; rw [HB0.out]; rintro e w2 ⟨rfl, hw2⟩)
      go_roundw
      case rel => exact ⟨k + 1, by omega, by go_num, by rw [HE3.out]; go_num, hwr.trans hw2⟩
      case measure => simp [intOf]; omega
    · have hkl : k = l.length := by omega
      have e4 : sumTo d l k = usedF d.files := by unfold sumTo; rw [hkl, List.take_length, ← HU.out]; rfl
      have HE4 := Lib.hid e4
      clear e4 hkl
      go_wp2
      go_ret
      exact ⟨ret1 (by rw [HE4.out]), hw1.trans hwr⟩

theorem Tryd.infoByte : (Tryd.prog.info? 5).map (fun i => (i.zero, i.size, i.bytes)) = some (some (.int .u8 0), 1, 1) := by kernel_rfl

/-- A slice of bytes of one's own, new. -/
def NewBytes (w : World) (l : List UInt8) (e : Ending) (w' : World) : Prop := ∃ v, e = .returned v ∧ Own w' v l ∧ Nw w w' ∧ ∀ g, v.ownBlock = some g → w.heap.size ≤ g

theorem eqlSlice (w : World) (a : Option Addr) (n c : Nat) : (binOp .eql 33 (.slice a n c) (.slice none 0 0)).run Tryd.prog w = .ok (.bool a.isNone) w :=
  Go.Lib.run_eql_slice_nil w _ _ a n c 0 0 Tryd.underlying33

theorem Clone_ok {w : World} {v : Value} {l : List UInt8} (h : Bs w v l) (hl : l.length ≤ 140737488355328) :
    Calls Tryd.prog 55 #[v] w (NewBytes w l) := by
  obtain ⟨i0, hi, hz0, hz1, hz2⟩ := info_parts Tryd.infoByte
  have HB := Lib.hid h
  obtain ⟨sa, cap, rfl, hcap, hmx, hn0⟩ : ∃ sa cap, v = .slice sa l.length cap ∧ l.length ≤ cap ∧ cap ≤ maxLen ∧ (sa = none → l = [] ∧ cap = 0) := by
    rcases h with ⟨a, rfl, rfl⟩ | ⟨g, o, cap, rfl, h1, h2, hg, h3⟩
    · exact ⟨a, 0, rfl, by simp, by simp, fun _ => ⟨rfl, rfl⟩⟩
    · exact ⟨_, cap, rfl, h1, h2, fun e => by cases e⟩
  clear h
  cases sa
  case none =>
    obtain ⟨rfl, rfl⟩ := hn0 rfl
    have q := eqlSlice w none 0 0
    go_enter Tryd.func55, Tryd.ntmps55
    go_wp2
    go_ret
    exact ⟨_, rfl, RowF.nil, Nw.refl _, fun g hg => by cases hg⟩
  case some sa =>
    have q := eqlSlice w (some sa) l.length cap
    clear hn0
    have hm : l.length ≤ maxLen := Nat.le_trans hcap hmx
    unfold maxLen at hm hmx
    go_enter Tryd.func55, Tryd.ntmps55
    have hrow : RowF u8 5 (w.alloc (.cells #[] 5)) (.slice (some ⟨w.heap.size, 0, none⟩) 0 0) [] := .inr ⟨w.heap.size, 0, #[], rfl, heap_alloc_new w _, by simp, by simp, by simp, by simp⟩
    go_wp2_with (at_builtin; refine wpList_append_row u8_one rfl _ _ 33 rfl 5 i0 (.int .u8 0) 1 Tryd.underlying33 hi hz0 hz1 hz2 rfl rfl rfl hrow (HB.out.nw ((Nw.refl w).alloc _)) ?c1 ?c2 ?_)
    case c1 => simp only [List.length_nil, Nat.zero_add, maxLen]; exact hm
    case c2 => simp only [List.length_nil, Nat.zero_add, Nat.mul_one]; exact hl
    intro v' w' hr ho hf hn
    have HR := Lib.hid hr
    have HO := Lib.hid ho
    have HF := Lib.hid hf
    clear hr ho hf hn
    go_wp2
    go_ret
    have hsz : (w.alloc (.cells #[] 5)).heap.size = w.heap.size + 1 := by simp
    refine ⟨v', rfl, HR.out, ?_, fun g hg => ?_⟩
    · exact ((Nw.refl w).alloc _).trans' HO.out (fun k hk e => by simp only [Value.ownBlock, Option.some.injEq] at e; omega)
    · rcases HF.out with hf | hf
      · rw [hf] at hg; simp only [Value.ownBlock, Option.some.injEq] at hg; omega
      · have := hf g hg; omega

/-- What Read hands back. -/
def ReadPost (w : World) (r : List UInt8 × Int) (e : Ending) (w' : World) : Prop := ∃ v, e = .returned (.tuple #[v, .int .i64 r.2]) ∧ Own w' v r.1 ∧ Nw w w' ∧ ∀ g, v.ownBlock = some g → w.heap.size ≤ g

theorem bytes_le {d : Dsk} (ok : d.Ok) {n : Str} {f : DFile} (h : getF d.files n = some f) : f.bytes.length ≤ 16777216 := by
  have key : ∀ (L : List (Str × DFile)), getF L n = some f → f.bytes.length ≤ usedF L := by
    intro L
    induction L with
    | nil => intro h; cases h
    | cons x L ih =>
      obtain ⟨k, g⟩ := x
      intro h
      simp only [getF] at h
      split at h
      · cases h; simp [usedF]
      · have := ih h; simp only [usedF, List.map_cons, List.sum_cons] at this ⊢; omega
  have h1 := key _ h
  have h2 := ok.used
  have h3 := ok.most1
  omega

theorem Read_ok {w : World} {b : Nat} {d : Dsk} {S : Nat → Prop} (h : DiskIn w b d S) (n : Str) :
    Calls Tryd.prog 21 #[.pointer (some ⟨b, 0, none⟩), .string ⟨n.toArray⟩] w (ReadPost w (d.read n)) := by
  have HH := Lib.hid h
  obtain ⟨m, fs, hD, hS⟩ := h
  obtain ⟨c0, -, -, c3, -⟩ := hdr_cells hD.hdr
  obtain ⟨clock, hmap, -⟩ := hD.map
  have hl := look_file hmap n
  cases hdn : d.down
  case true =>
    have r : Hid (d.read n = ([], 15)) := by show d.read n = _; simp [Dsk.read, hdn]
    rw [hdn] at c3
    clear hmap hD hS hl hdn
    go_enter Tryd.func21, Tryd.ntmps21
    go_wp2_with (go_at_call 54; refine (up_ok _ b m true c0 c3).mono ?_; rintro e w' ⟨rfl, rfl⟩)
    go_ret2
    exact ⟨_, by rw [r.out]; rfl, by rw [r.out]; exact RowF.nil, Nw.refl _, fun g hg => by cases hg⟩
  case false =>
    rw [hdn] at c3
    rcases ptrOf_spec hD n with ⟨hn, hp, hg⟩ | ⟨A, f, B, hfs, -, -, hp, hn, hg⟩
    · have r : Hid (d.read n = ([], 13)) := by show d.read n = _; simp [Dsk.read, hdn, hg]
      have t : Hid (d.there n = 13) := by show d.there n = 13; simp [Dsk.there, hn]
      clear hmap hD hS hl hdn hn hp hg
      go_enter Tryd.func21, Tryd.ntmps21
      go_wp2_with (first | (go_at_call 54; refine (up_ok _ b m false c0 c3).mono ?_; rintro e w' ⟨rfl, rfl⟩) | (go_at_call 43; refine (there_calls HH.out n).mono ?_; rw [t.out]; rintro e w' ⟨rfl, rfl⟩))
      go_ret2
      exact ⟨_, by rw [r.out]; rfl, by rw [r.out]; exact RowF.nil, Nw.refl _, fun g hg => by cases hg⟩
    · have r : Hid (d.read n = (f.file.bytes, 0)) := by show d.read n = _; simp [Dsk.read, hdn, hg]
      have t : Hid (d.there n = 0) := by show d.there n = 0; simp [Dsk.there, hn]
      have hf := hD.file f (by rw [hfs]; simp)
      have hlen := bytes_le hD.ok hg
      have f0 : w.cell? ⟨f.fb, 0, none⟩ = some f.sl := by simp [World.cell?, hf.blk]
      have HC := Lib.hid (Clone_ok hf.own.rd (by omega))
      rw [hp] at hl
      clear hmap hD hS hdn hn hp hg hfs hf hlen
      go_enter Tryd.func21, Tryd.ntmps21
      go_wp2_with (first | (go_at_call 54; refine (up_ok _ b m false c0 c3).mono ?_; rintro e w' ⟨rfl, rfl⟩) | (go_at_call 43; refine (there_calls HH.out n).mono ?_; rw [t.out]; rintro e w' ⟨rfl, rfl⟩) | (go_at_call 55; refine HC.out.mono ?_; rintro e w' ⟨v, rfl, ho, hw, hf⟩))
      go_ret2
      exact ⟨v, by rw [r.out]; rfl, by rw [r.out]; exact ho, hw, hf⟩
end Go.Proofs.YtkhcdbafcigeoaaDoor

/-
  The closures that say whether an operation may be done.
-/
namespace Go.Proofs.YtkhcdbafcigeoaaDoor
open Go Go.RowKit Go.Sort
set_option maxRecDepth 100000
set_option maxHeartbeats 800000

/-- A call in a drawn region, by a contract that holds in every later world. -/
theorem quiet_nw {P : Program} {f : FuncId} {args : Array Value} {w : World} {p : Regrown} {v : Value} (h : ∀ w1, Nw w w1 → Calls P f args w1 fun e w' => e = .returned v ∧ Nw w1 w') :
    Calls P f args (grow (redrawn w p.d) p.os) fun e w'' => e = .returned v ∧ ∃ p' : Regrown, w'' = grow (redrawn w p'.d) p'.os := by
  have hp : Nw w (grow (redrawn w p.d) p.os) := Nw.of_regrown ⟨p, rfl⟩
  exact (h _ hp).mono fun e w' ⟨he, hw⟩ => ⟨he, (hp.trans hw).regrown⟩

/-- A fact on a cell, in the form that a drawn region wants. -/
theorem cellG {w : World} {a : Addr} {v : Value} (h : w.cell? a = some v) : ∀ (p : Regrown), (grow (redrawn w p.d) p.os).cell? a = some v := fun p => cell_regrown h p.d p.os

theorem Append1_ok {w : World} {b : Nat} {d : Dsk} {S : Nat → Prop} (h : DiskIn w b d S) (n : Str) (l : List UInt8) (pn pd pb : Nat) (src : Value)
    (hn : w.cell? ⟨pn, 0, none⟩ = some (.string ⟨n.toArray⟩)) (hd : w.cell? ⟨pd, 0, none⟩ = some (.pointer (some ⟨b, 0, none⟩))) (hb : w.cell? ⟨pb, 0, none⟩ = some src) (hs : Bs w src l)
    (hnl : n.length ≤ 9223372036854775807) (hll : l.length ≤ 140737488355328) :
    Calls Tryd.prog 34 #[.pointer (some ⟨pn, 0, none⟩), .pointer (some ⟨pd, 0, none⟩), .pointer (some ⟨pb, 0, none⟩)] w fun e w' => e = .returned (.int .i64 (d.mayAppend n l)) ∧ Nw w w' := by
  have hR := Lib.hid (right_calls n w hnl)
  cases hok : okName n
  case false =>
    have r : Hid (d.mayAppend n l = 13) := by show d.mayAppend n l = 13; simp [Dsk.mayAppend, hok]
    rw [hok] at hR
    clear hok h hs hb hd
    go_enter Tryd.func34, Tryd.ntmps34
    go_wp2_with (go_at_call 35; refine hR.out.mono ?_; rintro e w1 ⟨rfl, hw1⟩)
    go_ret
    exact ⟨by rw [r.out]; rfl, hw1⟩
  case true =>
    rw [hok] at hR
    have HH := Lib.hid h
    obtain ⟨m, fs, hD, hS⟩ := h
    obtain ⟨c0, c1, -, -, -⟩ := hdr_cells hD.hdr
    obtain ⟨clock, hmap, -⟩ := hD.map
    obtain ⟨sa, sc, rfl, hlm⟩ := hs.len
    have hok' := hD.ok
    have hmost0 := hok'.most0
    have hmost := hok'.most1
    have hused := hok'.used
    have hlen : d.files.length = fs.length := by rw [hD.files]; simp
    go_enter Tryd.func34, Tryd.ntmps34
    go_wp2_with (go_at_call 35; refine hR.out.mono ?_; rintro e w1 ⟨rfl, hw1⟩)
    have d0 := cellG (hw1.cell hn)
    have d1 := cellG (hw1.cell hd)
    have d2 := cellG (hw1.cell hb)
    have d3 := cellG (hw1.cell c0)
    have d4 := cellG (hw1.cell c1)
    have hm1 := hw1.at_ hmap
    have HU : Hid (∀ p : Regrown, Calls Tryd.prog 28 #[.pointer (some ⟨b, 0, none⟩)] (grow (redrawn w1 p.d) p.os) fun e w'' => e = .returned (.int .i64 (usedF d.files)) ∧ ∃ p' : Regrown, w'' = grow (redrawn w1 p'.d) p'.os) := fun p => quiet_nw fun w2 hw2 => Used_ok ((HH.out.nw hw1).nw hw2)
    have hlk : ∀ p : Regrown, (Instr.lookup 55 (.map (some m)) (.string ⟨n.toArray⟩) false).run Tryd.prog (grow (redrawn w1 p.d) p.os) = .ok (.pointer (ptrOf fs n)) (grow (redrawn w1 p.d) p.os) := fun p =>
      look_file ((Nw.of_regrown ⟨p, rfl⟩ : Nw w1 _).at_ hm1) n
    have hln : ∀ (p : Regrown) (ty : TypeId), (Builtin.len_ #[55] ty #[.map (some m)]).run Tryd.prog (grow (redrawn w1 p.d) p.os) = .ok (.int .i64 fs.length) (grow (redrawn w1 p.d) p.os) := fun p ty => by
      have := run_len_map (P := Tryd.prog) ty Tryd.underlying55 ((Nw.of_regrown ⟨p, rfl⟩ : Nw w1 _).at_ hm1)
      rwa [List.length_map] at this
    clear hm1 c0 c1 hn hd hb hs hmap
    have HD := Lib.hid hD; clear hD
    have hwr : IntKind.i64.wrap ((usedF d.files : Int) + (l.length : Int)) = (usedF d.files : Int) + (l.length : Int) := IntWalk.i64_in _ (by omega)
    by_cases hfull : d.most < (usedF d.files + l.length : Nat)
    · have hg : decide (d.most < (usedF d.files : Int) + (l.length : Int)) = true := by simp; omega
      have r : Hid (d.mayAppend n l = 5) := by show d.mayAppend n l = 5; unfold Dsk.mayAppend; rw [if_pos hok, if_pos (.inl hfull)]
      refine wp_region_quiet_below (by kernel_rfl) (by kernel_rfl) ?_
      repeat (first | go_big_quiet_step (exact HU.out _) | quiet_step (exact HU.out _))
      refine wpQuiet_nil ?_
      intro w2 hw2
      have hw2 := Lib.hid (Nw.of_regrown hw2)
      clear hwr hg hfull
      go_wp2
      go_ret
      exact ⟨by rw [r.out]; rfl, hw1.trans hw2.out⟩
    · have hg : decide (d.most < (usedF d.files : Int) + (l.length : Int)) = false := by simp; omega
      rcases ptrOf_spec HD.out n with ⟨hnn, hp, -⟩ | ⟨A, f, B, -, -, -, hp, hnn, -⟩
      · rw [hp] at hlk
        by_cases hmany : 200 ≤ fs.length
        · have hg2 : decide (200 ≤ fs.length) = true := by simp; omega
          have hg3 : decide ((200 : Int) ≤ (fs.length : Int)) = true := by simp; omega
          have r : Hid (d.mayAppend n l = 5) := by show d.mayAppend n l = 5; unfold Dsk.mayAppend; rw [if_pos hok, if_pos (.inr ⟨hnn, by omega⟩)]
          clear hp hnn hlen
          refine wp_region_quiet_below (by kernel_rfl) (by kernel_rfl) ?_
          repeat (first | go_big_quiet_step (exact HU.out _) | quiet_step (exact HU.out _))
          refine wpQuiet_nil ?_
          intro w2 hw2
          have hw2 := Lib.hid (Nw.of_regrown hw2)
          clear hwr hg hfull hlk hln
          go_wp2
          go_ret
          exact ⟨by rw [r.out]; rfl, hw1.trans hw2.out⟩
        · have hg2 : decide (200 ≤ fs.length) = false := by simp; omega
          have hg3 : decide ((200 : Int) ≤ (fs.length : Int)) = false := by simp; omega
          have r : Hid (d.mayAppend n l = 0) := by show d.mayAppend n l = 0; unfold Dsk.mayAppend; rw [if_pos hok, if_neg (by rintro (h | ⟨-, h⟩); exact hfull h; omega)]
          clear hp hnn hlen
          refine wp_region_quiet_below (by kernel_rfl) (by kernel_rfl) ?_
          repeat (first | go_big_quiet_step (exact HU.out _) | quiet_step (exact HU.out _))
          refine wpQuiet_nil ?_
          intro w2 hw2
          have hw2 := Lib.hid (Nw.of_regrown hw2)
          clear hwr hg hfull hlk hln
          go_wp2
          go_ret
          exact ⟨by rw [r.out]; rfl, hw1.trans hw2.out⟩
      · rw [hp] at hlk
        have r : Hid (d.mayAppend n l = 0) := by show d.mayAppend n l = 0; unfold Dsk.mayAppend; rw [if_pos hok, if_neg (by rintro (h | ⟨h, -⟩); exact hfull h; exact h hnn)]
        clear hp hnn hlen
        refine wp_region_quiet_below (by kernel_rfl) (by kernel_rfl) ?_
        repeat (first | go_big_quiet_step (exact HU.out _) | quiet_step (exact HU.out _))
        refine wpQuiet_nil ?_
        intro w2 hw2
        have hw2 := Lib.hid (Nw.of_regrown hw2)
        clear hwr hg hfull hlk hln
        go_wp2
        go_ret
        exact ⟨by rw [r.out]; rfl, hw1.trans hw2.out⟩
end Go.Proofs.YtkhcdbafcigeoaaDoor

/-
  The other closures that say whether an operation may be done.
-/
namespace Go.Proofs.YtkhcdbafcigeoaaDoor
open Go Go.RowKit Go.Sort
set_option maxRecDepth 100000
set_option maxHeartbeats 800000

theorem Sync1_ok {w : World} {b : Nat} {d : Dsk} {S : Nat → Prop} (h : DiskIn w b d S) (n : Str) (pn pd : Nat)
    (hn : w.cell? ⟨pn, 0, none⟩ = some (.string ⟨n.toArray⟩)) (hd : w.cell? ⟨pd, 0, none⟩ = some (.pointer (some ⟨b, 0, none⟩))) :
    Calls Tryd.prog 42 #[.pointer (some ⟨pd, 0, none⟩), .pointer (some ⟨pn, 0, none⟩)] w fun e w' => e = .returned (.int .i64 (d.there n)) ∧ Nw w w' := by
  have H := Lib.hid (there_calls h n)
  clear h
  go_enter Tryd.func42, Tryd.ntmps42
  go_wp2_with (go_at_call 43; refine H.out.mono ?_; rintro e w' ⟨rfl, rfl⟩)
  go_ret
  exact ⟨rfl, Nw.refl _⟩
theorem Remove1_ok {w : World} {b : Nat} {d : Dsk} {S : Nat → Prop} (h : DiskIn w b d S) (n : Str) (pn pd : Nat)
    (hn : w.cell? ⟨pn, 0, none⟩ = some (.string ⟨n.toArray⟩)) (hd : w.cell? ⟨pd, 0, none⟩ = some (.pointer (some ⟨b, 0, none⟩))) :
    Calls Tryd.prog 48 #[.pointer (some ⟨pd, 0, none⟩), .pointer (some ⟨pn, 0, none⟩)] w fun e w' => e = .returned (.int .i64 (d.there n)) ∧ Nw w w' := by
  have H := Lib.hid (there_calls h n)
  clear h
  go_enter Tryd.func48, Tryd.ntmps48
  go_wp2_with (go_at_call 43; refine H.out.mono ?_; rintro e w' ⟨rfl, rfl⟩)
  go_ret
  exact ⟨rfl, Nw.refl _⟩

def Dsk.mayRename (d : Dsk) (a b : Str) : Int := if okName b then d.there a else 13
theorem Rename1_ok {w : World} {b : Nat} {d : Dsk} {S : Nat → Prop} (h : DiskIn w b d S) (n t : Str) (pn pd pt : Nat)
    (hn : w.cell? ⟨pn, 0, none⟩ = some (.string ⟨n.toArray⟩)) (hd : w.cell? ⟨pd, 0, none⟩ = some (.pointer (some ⟨b, 0, none⟩))) (ht : w.cell? ⟨pt, 0, none⟩ = some (.string ⟨t.toArray⟩))
    (htl : t.length ≤ 9223372036854775807) :
    Calls Tryd.prog 45 #[.pointer (some ⟨pt, 0, none⟩), .pointer (some ⟨pd, 0, none⟩), .pointer (some ⟨pn, 0, none⟩)] w fun e w' => e = .returned (.int .i64 (d.mayRename n t)) ∧ Nw w w' := by
  have hR := Lib.hid (right_calls t w htl)
  have HH := Lib.hid h
  clear h
  cases hok : okName t
  case false =>
    have r : Hid (d.mayRename n t = 13) := by show d.mayRename n t = 13; simp [Dsk.mayRename, hok]
    rw [hok] at hR
    clear hok
    go_enter Tryd.func45, Tryd.ntmps45
    go_wp2_with (go_at_call 35; refine hR.out.mono ?_; rintro e w1 ⟨rfl, hw1⟩)
    go_ret
    exact ⟨by rw [r.out]; rfl, hw1⟩
  case true =>
    have r : Hid (d.mayRename n t = d.there n) := by show d.mayRename n t = d.there n; simp [Dsk.mayRename, hok]
    rw [hok] at hR
    clear hok
    go_enter Tryd.func45, Tryd.ntmps45
    go_wp2_with (go_at_call 35; refine hR.out.mono ?_)
    rintro e w1 ⟨rfl, hw1⟩
    have e1 := hw1.cell hn
    have e2 := hw1.cell hd
    have H := Lib.hid (there_calls (HH.out.nw hw1) n)
    go_wp2_with (go_at_call 43; refine H.out.mono ?_; rintro e w' ⟨rfl, rfl⟩)
    go_ret
    exact ⟨by rw [r.out]; rfl, hw1⟩

theorem Cut1_ok {w : World} {b : Nat} {d : Dsk} {S : Nat → Prop} (h : DiskIn w b d S) (n : Str) (k : Int) (pn pd pk : Nat)
    (hn : w.cell? ⟨pn, 0, none⟩ = some (.string ⟨n.toArray⟩)) (hd : w.cell? ⟨pd, 0, none⟩ = some (.pointer (some ⟨b, 0, none⟩))) (hk : w.cell? ⟨pk, 0, none⟩ = some (.int .i64 k)) :
    Calls Tryd.prog 50 #[.pointer (some ⟨pd, 0, none⟩), .pointer (some ⟨pn, 0, none⟩), .pointer (some ⟨pk, 0, none⟩)] w fun e w' => e = .returned (.int .i64 (d.mayCut n k)) ∧ Nw w w' := by
  obtain ⟨m, fs, hD, hS⟩ := h
  obtain ⟨c0, c1, -, -, -⟩ := hdr_cells hD.hdr
  obtain ⟨clock, hmap, -⟩ := hD.map
  have d0 := cellG hn
  have d1 := cellG hd
  have d2 := cellG hk
  have d3 := cellG c0
  have hlk : ∀ p : Regrown, (Instr.lookup 55 (.map (some m)) (.string ⟨n.toArray⟩) false).run Tryd.prog (grow (redrawn w p.d) p.os) = .ok (.pointer (ptrOf fs n)) (grow (redrawn w p.d) p.os) := fun p =>
    look_file ((Nw.of_regrown ⟨p, rfl⟩ : Nw w _).at_ hmap) n
  rcases ptrOf_spec hD n with ⟨hnn, hp, hg⟩ | ⟨A, f, B, hfs, -, -, hp, hnn, hg⟩
  · rw [hp] at hlk
    have r : Hid (d.mayCut n k = 13) := by show d.mayCut n k = 13; simp [Dsk.mayCut, hg]
    clear hp hnn hD hmap hn hd hk c0 hg
    go_enter Tryd.func50, Tryd.ntmps50
    go_wp2
    refine wp_region_quiet_below (by kernel_rfl) (by kernel_rfl) ?_
    repeat (first | go_big_quiet_step (fail) | quiet_step (fail))
    refine wpQuiet_nil ?_
    intro w2 hw2
    have hw2 := Lib.hid (Nw.of_regrown hw2)
    clear hlk
    go_wp2
    go_ret
    exact ⟨by rw [r.out]; rfl, hw2.out⟩
  · rw [hp] at hlk
    have hf := hD.file f (by rw [hfs]; simp)
    obtain ⟨sa, sc, hsl, hlm⟩ := hf.own.rd.len
    have f0 : w.cell? ⟨f.fb, 0, none⟩ = some (.slice sa f.file.bytes.length sc) := by rw [← hsl]; simp [World.cell?, hf.blk]
    have hlen := bytes_le hD.ok hg
    generalize hL : f.file.bytes.length = L at *
    have r : Hid (d.mayCut n k = if k < 0 ∨ (L : Int) < k then 2 else 0) := by show d.mayCut n k = _; simp [Dsk.mayCut, hg, hL]
    clear hp hnn hD hmap hg hfs hf hsl hL hlm d0 d1 d2 d3
    have hcase : (k < 0) ∨ (0 ≤ k ∧ (L : Int) < k) ∨ (0 ≤ k ∧ k ≤ (L : Int)) := by omega
    rcases hcase with h1 | ⟨h1, h2⟩ | ⟨h1, h2⟩
    all_goals
      go_enter Tryd.func50, Tryd.ntmps50
      go_wp2
      have d0 := cellG hn
      have d1 := cellG hd
      have d3 := cellG c0
      refine wp_region_quiet_below (by kernel_rfl) (by kernel_rfl) ?_
      repeat (first | go_big_quiet_step (fail) | quiet_step (fail))
      refine wpQuiet_nil ?_
      intro w2 hw2
      have hw2 := Nw.of_regrown hw2
      have f1 := cellG (hw2.cell f0)
      have k1 := cellG (hw2.cell hk)
      have HW := Lib.hid hw2
      clear hlk d0 d1 d3 hw2 hk
      go_wp2
      first
        | (have q1 : decide (k < 0) = true := by simpa using h1
           have r2 : Hid (d.mayCut n k = 2) := by show d.mayCut n k = 2; rw [r.out, if_pos (by omega)]
           refine wp_region_quiet_below (by kernel_rfl) (by kernel_rfl) ?_
           repeat (first | go_big_quiet_step (fail) | quiet_step (fail))
           refine wpQuiet_nil ?_
           intro w3 hw3
           have hw3 := Lib.hid (Nw.of_regrown hw3)
           clear f1 k1 q1
           go_wp2
           go_ret
           exact ⟨by rw [r2.out]; rfl, HW.out.trans hw3.out⟩)
        | (have q1 : decide (k < 0) = false := by simpa using h1
           have q2 : decide ((L : Int) < k) = true := by simpa using h2
           have r2 : Hid (d.mayCut n k = 2) := by show d.mayCut n k = 2; rw [r.out, if_pos (by omega)]
           refine wp_region_quiet_below (by kernel_rfl) (by kernel_rfl) ?_
           repeat (first | go_big_quiet_step (fail) | quiet_step (fail))
           refine wpQuiet_nil ?_
           intro w3 hw3
           have hw3 := Lib.hid (Nw.of_regrown hw3)
           clear f1 k1 q1 q2
           go_wp2
           go_ret
           exact ⟨by rw [r2.out]; rfl, HW.out.trans hw3.out⟩)
        | (have q1 : decide (k < 0) = false := by simpa using h1
           have q2 : decide ((L : Int) < k) = false := by simpa using h2
           have r2 : Hid (d.mayCut n k = 0) := by show d.mayCut n k = 0; rw [r.out, if_neg (by omega)]
           refine wp_region_quiet_below (by kernel_rfl) (by kernel_rfl) ?_
           repeat (first | go_big_quiet_step (fail) | quiet_step (fail))
           refine wpQuiet_nil ?_
           intro w3 hw3
           have hw3 := Lib.hid (Nw.of_regrown hw3)
           clear f1 k1 q1 q2
           go_wp2
           go_ret
           exact ⟨by rw [r2.out]; rfl, HW.out.trans hw3.out⟩)
end Go.Proofs.YtkhcdbafcigeoaaDoor
