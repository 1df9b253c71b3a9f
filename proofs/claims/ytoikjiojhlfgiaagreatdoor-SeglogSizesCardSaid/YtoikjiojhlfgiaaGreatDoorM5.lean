/-
  Texts merged by a program of this claim's: DiskF, DiskG, DiskH, DiskM.
-/
import Derived.Test.YtoikjiojhlfgiaaGreatDoorM4
import Derived.Lib.SliceRun
/-
  How many bytes a disk has; reading a file.
-/
namespace Go.Proofs.YtoikjiojhlfgiaaGreatDoor
open Go Go.RowKit Go.Sort
set_option maxRecDepth 100000
set_option maxHeartbeats 400000

def sizeOfN (d : Dsk) (n : Str) : Nat := (fileOf d.files n).bytes.length

theorem mem_le_sum (l : List Nat) : ∀ k, (l.take k).sum ≤ l.sum := by
  intro k
  have := List.sum_append (l₁ := l.take k) (l₂ := l.drop k)
  rw [List.take_append_drop] at this
  omega

def sumTo (d : Dsk) (l : List Str) (k : Nat) : Nat := ((l.take k).map (sizeOfN d)).sum
theorem sumTo_succ (d : Dsk) (l : List Str) (k : Nat) (h : k < l.length) : sumTo d l (k + 1) = sumTo d l k + sizeOfN d l[k] := by
  unfold sumTo
  rw [List.take_succ_eq_append_getElem h, List.map_append, List.sum_append]; simp
theorem sumTo_le (d : Dsk) (l : List Str) (k : Nat) : sumTo d l k ≤ (l.map (sizeOfN d)).sum := by
  unfold sumTo; rw [List.map_take]; exact mem_le_sum _ _

theorem Used_ok {w : World} {b : Nat} {d : Dsk} {S : Nat → Prop} (h : DiskIn w b d S) :
    Calls Tryz.prog 27 #[.pointer (some ⟨b, 0, none⟩)] w fun e w' => e = .returned (.int .i64 (usedF d.files)) ∧ Nw w w' := by
  have hu := used_list h.ok
  have hm := h.ok.most1
  have hus := h.ok.used
  have hbound : usedF d.files ≤ 16777216 := by omega
  have hL := Lib.hid (List_ok h)
  have HU := Lib.hid hu
  have hlen : d.list.length ≤ 200 := by
    have := h.ok.few
    have hp : d.list.Perm (namesF d.files) := List.mergeSort_perm _ _
    rw [hp.length_eq]; simpa [namesF] using this
  have H := Lib.hid h
  clear h hu hm hus
  go_enter Tryz.func27, Tryz.ntmps27
  go_wp2_with (go_at_call 28; refine hL.out.mono ?_)
  rintro e w1 ⟨v, rfl, hss, hw1, hfresh⟩
  generalize hl : d.list = l at *
  have HL2 := Lib.hid hl; clear hl
  obtain ⟨sa, cap, rfl, h1, h2, hel⟩ := hss.elems
  have HE := Lib.hid hel
  have HD1 := Lib.hid (H.out.nw hw1)
  clear hss hel
  go_wp2
  go_loopw [3, 9] (fun n i wr => ∃ k : Nat, k ≤ l.length ∧ i = .int .i64 k ∧ n = .int .i64 (sumTo d l k) ∧ Nw w1 wr) (fun _ i _ => l.length - (intOf i).toNat)
  case atStart => exact ⟨0, Nat.zero_le _, rfl, rfl, Nw.refl _⟩
  case round =>
    obtain ⟨k, hk, rfl, rfl, hwr⟩ := hrel
    by_cases hlt : k < l.length
    · obtain ⟨g, o, rfl, hg, hc⟩ := HE.out k hlt
      have hc' := hwr.cell hc
      have hs := Lib.hid (Size_ok (HD1.out.nw hwr) l[k])
      have e2 : (l.map (sizeOfN d)).sum = usedF d.files := by rw [← HU.out]; rfl
      have e1 := sumTo_le d l (k + 1)
      have e3 := sumTo_succ d l k hlt
      rw [e2, e3] at e1
      have hb1 : sumTo d l k + sizeOfN d l[k] ≤ 16777216 := Nat.le_trans e1 hbound
      clear e2 e1
      have hb0 : (fileOf d.files l[k]).bytes.length = sizeOfN d l[k] := rfl
      have HB0 := Lib.hid hb0
      have HE3 := Lib.hid e3
      clear hb0 hc e3
      go_wp2_with (go_at_call 22; refine hs.out.mono ?_; rw [HB0.out]; rintro e w2 ⟨rfl, hw2⟩)
      go_roundw
      case rel => exact ⟨k + 1, by omega, by go_num, by rw [HE3.out]; go_num, hwr.trans hw2⟩
      case measure => simp [intOf]; omega
    · have hkl : k = l.length := by omega
      have e4 : sumTo d l k = usedF d.files := by unfold sumTo; rw [hkl, List.take_length, ← HU.out]; rfl
      have HE4 := Lib.hid e4
      clear e4 hkl
      go_wp2
      go_ret
      exact ⟨ret1 (by rw [HE4.out]), hw1.trans hwr⟩

theorem Tryz.infoByte : (Tryz.prog.info? 5).map (fun i => (i.zero, i.size, i.bytes)) = some (some (.int .u8 0), 1, 1) := by kernel_rfl

/-- A slice of bytes of one's own, new. -/
def NewBytes (w : World) (l : List UInt8) (e : Ending) (w' : World) : Prop := ∃ v, e = .returned v ∧ Own w' v l ∧ Nw w w' ∧ ∀ g, v.ownBlock = some g → w.heap.size ≤ g

theorem eqlSlice (w : World) (a : Option Addr) (n c : Nat) : (binOp .eql 45 (.slice a n c) (.slice none 0 0)).run Tryz.prog w = .ok (.bool a.isNone) w :=
  Go.Lib.run_eql_slice_nil w _ _ a n c 0 0 Tryz.underlying45

theorem Clone_ok {w : World} {v : Value} {l : List UInt8} (h : Bs w v l) (hl : l.length ≤ 140737488355328) :
    Calls Tryz.prog 110 #[v] w (NewBytes w l) := by
  obtain ⟨i0, hi, hz0, hz1, hz2⟩ := info_parts Tryz.infoByte
  have HB := Lib.hid h
  obtain ⟨sa, cap, rfl, hcap, hmx, hn0⟩ : ∃ sa cap, v = .slice sa l.length cap ∧ l.length ≤ cap ∧ cap ≤ maxLen ∧ (sa = none → l = [] ∧ cap = 0) := by
    rcases h with ⟨a, rfl, rfl⟩ | ⟨g, o, cap, rfl, h1, h2, hg, h3⟩
    · exact ⟨a, 0, rfl, by simp, by simp, fun _ => ⟨rfl, rfl⟩⟩
    · exact ⟨_, cap, rfl, h1, h2, fun e => by cases e⟩
  clear h
  cases sa
  case none =>
    obtain ⟨rfl, rfl⟩ := hn0 rfl
    have q := eqlSlice w none 0 0
    go_enter Tryz.func110, Tryz.ntmps110
    go_wp2
    go_ret
    exact ⟨_, rfl, RowF.nil, Nw.refl _, fun g hg => by cases hg⟩
  case some sa =>
    have q := eqlSlice w (some sa) l.length cap
    clear hn0
    have hm : l.length ≤ maxLen := Nat.le_trans hcap hmx
    unfold maxLen at hm hmx
    go_enter Tryz.func110, Tryz.ntmps110
    have hrow : RowF u8 5 (w.alloc (.cells #[] 5)) (.slice (some ⟨w.heap.size, 0, none⟩) 0 0) [] := .inr ⟨w.heap.size, 0, #[], rfl, heap_alloc_new w _, by simp, by simp, by simp, by simp⟩
    go_wp2_with (at_builtin; refine wpList_append_row u8_one rfl _ _ 45 rfl 5 i0 (.int .u8 0) 1 Tryz.underlying45 hi hz0 hz1 hz2 rfl rfl rfl hrow (HB.out.nw ((Nw.refl w).alloc _)) ?c1 ?c2 ?_)
    case c1 => simp only [List.length_nil, Nat.zero_add, maxLen]; exact hm
    case c2 => simp only [List.length_nil, Nat.zero_add, Nat.mul_one]; exact hl
    intro v' w' hr ho hf hn
    have HR := Lib.hid hr
    have HO := Lib.hid ho
    have HF := Lib.hid hf
    clear hr ho hf hn
    go_wp2
    go_ret
    have hsz : (w.alloc (.cells #[] 5)).heap.size = w.heap.size + 1 := by simp
    refine ⟨v', rfl, HR.out, ?_, fun g hg => ?_⟩
    · exact ((Nw.refl w).alloc _).trans' HO.out (fun k hk e => by simp only [Value.ownBlock, Option.some.injEq] at e; omega)
    · rcases HF.out with hf | hf
      · rw [hf] at hg; simp only [Value.ownBlock, Option.some.injEq] at hg; omega
      · have := hf g hg; omega

/-- What Read hands back. -/
def ReadPost (w : World) (r : List UInt8 × Int) (e : Ending) (w' : World) : Prop := ∃ v, e = .returned (.tuple #[v, .int .i64 r.2]) ∧ Own w' v r.1 ∧ Nw w w' ∧ ∀ g, v.ownBlock = some g → w.heap.size ≤ g

theorem bytes_le {d : Dsk} (ok : d.Ok) {n : Str} {f : DFile} (h : getF d.files n = some f) : f.bytes.length ≤ 16777216 := by
  have key : ∀ (L : List (Str × DFile)), getF L n = some f → f.bytes.length ≤ usedF L := by
    intro L
    induction L with
    | nil => intro h; cases h
    | cons x L ih =>
      obtain ⟨k, g⟩ := x
      intro h
      simp only [getF] at h
      split at h
      · cases h; simp [usedF]
      · have := ih h; simp only [usedF, List.map_cons, List.sum_cons] at this ⊢; omega
  have h1 := key _ h
  have h2 := ok.used
  have h3 := ok.most1
  omega

theorem Read_ok {w : World} {b : Nat} {d : Dsk} {S : Nat → Prop} (h : DiskIn w b d S) (n : Str) :
    Calls Tryz.prog 57 #[.pointer (some ⟨b, 0, none⟩), .string ⟨n.toArray⟩] w (ReadPost w (d.read n)) := by
  have HH := Lib.hid h
  obtain ⟨m, fs, hD, hS⟩ := h
  obtain ⟨c0, -, -, c3, -⟩ := hdr_cells hD.hdr
  obtain ⟨clock, hmap, -⟩ := hD.map
  have hl := look_file hmap n
  cases hdn : d.down
  case true =>
    have r : Hid (d.read n = ([], 15)) := by show d.read n = _; simp [Dsk.read, hdn]
    rw [hdn] at c3
    clear hmap hD hS hl hdn
    go_enter Tryz.func57, Tryz.ntmps57
    go_wp2_with (go_at_call 108; refine (up_ok _ b m true c0 c3).mono ?_; rintro e w' ⟨rfl, rfl⟩)
    go_ret2
    exact ⟨_, by rw [r.out]; rfl, by rw [r.out]; exact RowF.nil, Nw.refl _, fun g hg => by cases hg⟩
  case false =>
    rw [hdn] at c3
    rcases ptrOf_spec hD n with ⟨hn, hp, hg⟩ | ⟨A, f, B, hfs, -, -, hp, hn, hg⟩
    · have r : Hid (d.read n = ([], 13)) := by show d.read n = _; simp [Dsk.read, hdn, hg]
      have t : Hid (d.there n = 13) := by show d.there n = 13; simp [Dsk.there, hn]
      clear hmap hD hS hl hdn hn hp hg
      go_enter Tryz.func57, Tryz.ntmps57
      go_wp2_with (first | (go_at_call 108; refine (up_ok _ b m false c0 c3).mono ?_; rintro e w' ⟨rfl, rfl⟩) | (go_at_call 109; refine (there_calls HH.out n).mono ?_; rw [t.out]; rintro e w' ⟨rfl, rfl⟩))
      go_ret2
      exact ⟨_, by rw [r.out]; rfl, by rw [r.out]; exact RowF.nil, Nw.refl _, fun g hg => by cases hg⟩
    · have r : Hid (d.read n = (f.file.bytes, 0)) := by show d.read n = _; simp [Dsk.read, hdn, hg]
      have t : Hid (d.there n = 0) := by show d.there n = 0; simp [Dsk.there, hn]
      have hf := hD.file f (by rw [hfs]; simp)
      have hlen := bytes_le hD.ok hg
      have f0 : w.cell? ⟨f.fb, 0, none⟩ = some f.sl := by simp [World.cell?, hf.blk]
      have HC := Lib.hid (Clone_ok hf.own.rd (by omega))
      rw [hp] at hl
      clear hmap hD hS hdn hn hp hg hfs hf hlen
      go_enter Tryz.func57, Tryz.ntmps57
      go_wp2_with (first | (go_at_call 108; refine (up_ok _ b m false c0 c3).mono ?_; rintro e w' ⟨rfl, rfl⟩) | (go_at_call 109; refine (there_calls HH.out n).mono ?_; rw [t.out]; rintro e w' ⟨rfl, rfl⟩) | (go_at_call 110; refine HC.out.mono ?_; rintro e w' ⟨v, rfl, ho, hw, hf⟩))
      go_ret2
      exact ⟨v, by rw [r.out]; rfl, by rw [r.out]; exact ho, hw, hf⟩
end Go.Proofs.YtoikjiojhlfgiaaGreatDoor

/-
  The closures that say whether an operation may be done.
-/
namespace Go.Proofs.YtoikjiojhlfgiaaGreatDoor
open Go Go.RowKit Go.Sort
set_option maxRecDepth 100000
set_option maxHeartbeats 800000

/-- A call in a drawn region, by a contract that holds in every later world. -/
theorem quiet_nw {P : Program} {f : FuncId} {args : Array Value} {w : World} {p : Regrown} {v : Value} (h : ∀ w1, Nw w w1 → Calls P f args w1 fun e w' => e = .returned v ∧ Nw w1 w') :
    Calls P f args (grow (redrawn w p.d) p.os) fun e w'' => e = .returned v ∧ ∃ p' : Regrown, w'' = grow (redrawn w p'.d) p'.os := by
  have hp : Nw w (grow (redrawn w p.d) p.os) := Nw.of_regrown ⟨p, rfl⟩
  exact (h _ hp).mono fun e w' ⟨he, hw⟩ => ⟨he, (hp.trans hw).regrown⟩

/-- A fact on a cell, in the form that a drawn region wants. -/
theorem cellG {w : World} {a : Addr} {v : Value} (h : w.cell? a = some v) : ∀ (p : Regrown), (grow (redrawn w p.d) p.os).cell? a = some v := fun p => cell_regrown h p.d p.os

theorem Append1_ok {w : World} {b : Nat} {d : Dsk} {S : Nat → Prop} (h : DiskIn w b d S) (n : Str) (l : List UInt8) (pn pd pb : Nat) (src : Value)
    (hn : w.cell? ⟨pn, 0, none⟩ = some (.string ⟨n.toArray⟩)) (hd : w.cell? ⟨pd, 0, none⟩ = some (.pointer (some ⟨b, 0, none⟩))) (hb : w.cell? ⟨pb, 0, none⟩ = some src) (hs : Bs w src l)
    (hnl : n.length ≤ 9223372036854775807) (hll : l.length ≤ 140737488355328) :
    Calls Tryz.prog 89 #[.pointer (some ⟨pn, 0, none⟩), .pointer (some ⟨pd, 0, none⟩), .pointer (some ⟨pb, 0, none⟩)] w fun e w' => e = .returned (.int .i64 (d.mayAppend n l)) ∧ Nw w w' := by
  have hR := Lib.hid (right_calls n w hnl)
  cases hok : okName n
  case false =>
    have r : Hid (d.mayAppend n l = 13) := by show d.mayAppend n l = 13; simp [Dsk.mayAppend, hok]
    rw [hok] at hR
    clear hok h hs hb hd
    go_enter Tryz.func89, Tryz.ntmps89
    go_wp2_with (go_at_call 90; refine hR.out.mono ?_; rintro e w1 ⟨rfl, hw1⟩)
    go_ret
    exact ⟨by rw [r.out]; rfl, hw1⟩
  case true =>
    rw [hok] at hR
    have HH := Lib.hid h
    obtain ⟨m, fs, hD, hS⟩ := h
    obtain ⟨c0, c1, -, -, -⟩ := hdr_cells hD.hdr
    obtain ⟨clock, hmap, -⟩ := hD.map
    obtain ⟨sa, sc, rfl, hlm⟩ := hs.len
    have hok' := hD.ok
    have hmost0 := hok'.most0
    have hmost := hok'.most1
    have hused := hok'.used
    have hlen : d.files.length = fs.length := by rw [hD.files]; simp
    go_enter Tryz.func89, Tryz.ntmps89
    go_wp2_with (go_at_call 90; refine hR.out.mono ?_; rintro e w1 ⟨rfl, hw1⟩)
    have d0 := cellG (hw1.cell hn)
    have d1 := cellG (hw1.cell hd)
    have d2 := cellG (hw1.cell hb)
    have d3 := cellG (hw1.cell c0)
    have d4 := cellG (hw1.cell c1)
    have hm1 := hw1.at_ hmap
    have HU : Hid (∀ p : Regrown, Calls Tryz.prog 27 #[.pointer (some ⟨b, 0, none⟩)] (grow (redrawn w1 p.d) p.os) fun e w'' => e = .returned (.int .i64 (usedF d.files)) ∧ ∃ p' : Regrown, w'' = grow (redrawn w1 p'.d) p'.os) := fun p => quiet_nw fun w2 hw2 => Used_ok ((HH.out.nw hw1).nw hw2)
    have hlk : ∀ p : Regrown, (Instr.lookup 113 (.map (some m)) (.string ⟨n.toArray⟩) false).run Tryz.prog (grow (redrawn w1 p.d) p.os) = .ok (.pointer (ptrOf fs n)) (grow (redrawn w1 p.d) p.os) := fun p =>
      look_file ((Nw.of_regrown ⟨p, rfl⟩ : Nw w1 _).at_ hm1) n
    have hln : ∀ (p : Regrown) (ty : TypeId), (Builtin.len_ #[113] ty #[.map (some m)]).run Tryz.prog (grow (redrawn w1 p.d) p.os) = .ok (.int .i64 fs.length) (grow (redrawn w1 p.d) p.os) := fun p ty => by
      have := run_len_map (P := Tryz.prog) ty Tryz.underlying113 ((Nw.of_regrown ⟨p, rfl⟩ : Nw w1 _).at_ hm1)
      rwa [List.length_map] at this
    clear hm1 c0 c1 hn hd hb hs hmap
    have HD := Lib.hid hD; clear hD
    have hwr : IntKind.i64.wrap ((usedF d.files : Int) + (l.length : Int)) = (usedF d.files : Int) + (l.length : Int) := IntWalk.i64_in _ (by omega)
    by_cases hfull : d.most < (usedF d.files + l.length : Nat)
    · have hg : decide (d.most < (usedF d.files : Int) + (l.length : Int)) = true := by simp; omega
      have r : Hid (d.mayAppend n l = 5) := by show d.mayAppend n l = 5; unfold Dsk.mayAppend; rw [if_pos hok, if_pos (.inl hfull)]
      refine wp_region_quiet_below (by kernel_rfl) (by kernel_rfl) ?_
      repeat (first | go_big_quiet_step (exact HU.out _) | quiet_step (exact HU.out _))
      refine wpQuiet_nil ?_
      intro w2 hw2
      have hw2 := Lib.hid (Nw.of_regrown hw2)
      clear hwr hg hfull
      go_wp2
      go_ret
      exact ⟨by rw [r.out]; rfl, hw1.trans hw2.out⟩
    · have hg : decide (d.most < (usedF d.files : Int) + (l.length : Int)) = false := by simp; omega
      rcases ptrOf_spec HD.out n with ⟨hnn, hp, -⟩ | ⟨A, f, B, -, -, -, hp, hnn, -⟩
      · rw [hp] at hlk
        by_cases hmany : 200 ≤ fs.length
        · have hg2 : decide (200 ≤ fs.length) = true := by simp; omega
          have hg3 : decide ((200 : Int) ≤ (fs.length : Int)) = true := by simp; omega
          have r : Hid (d.mayAppend n l = 5) := by show d.mayAppend n l = 5; unfold Dsk.mayAppend; rw [if_pos hok, if_pos (.inr ⟨hnn, by omega⟩)]
          clear hp hnn hlen
          refine wp_region_quiet_below (by kernel_rfl) (by kernel_rfl) ?_
          repeat (first | go_big_quiet_step (exact HU.out _) | quiet_step (exact HU.out _))
          refine wpQuiet_nil ?_
          intro w2 hw2
          have hw2 := Lib.hid (Nw.of_regrown hw2)
          clear hwr hg hfull hlk hln
          go_wp2
          go_ret
          exact ⟨by rw [r.out]; rfl, hw1.trans hw2.out⟩
        · have hg2 : decide (200 ≤ fs.length) = false := by simp; omega
          have hg3 : decide ((200 : Int) ≤ (fs.length : Int)) = false := by simp; omega
          have r : Hid (d.mayAppend n l = 0) := by show d.mayAppend n l = 0; unfold Dsk.mayAppend; rw [if_pos hok, if_neg (by rintro (h | ⟨-, h⟩); exact hfull h; omega)]
          clear hp hnn hlen
          refine wp_region_quiet_below (by kernel_rfl) (by kernel_rfl) ?_
          repeat (first | go_big_quiet_step (exact HU.out _) | quiet_step (exact HU.out _))
          refine wpQuiet_nil ?_
          intro w2 hw2
          have hw2 := Lib.hid (Nw.of_regrown hw2)
          clear hwr hg hfull hlk hln
          go_wp2
          go_ret
          exact ⟨by rw [r.out]; rfl, hw1.trans hw2.out⟩
      · rw [hp] at hlk
        have r : Hid (d.mayAppend n l = 0) := by show d.mayAppend n l = 0; unfold Dsk.mayAppend; rw [if_pos hok, if_neg (by rintro (h | ⟨h, -⟩); exact hfull h; exact h hnn)]
        clear hp hnn hlen
        refine wp_region_quiet_below (by kernel_rfl) (by kernel_rfl) ?_
        repeat (first | go_big_quiet_step (exact HU.out _) | quiet_step (exact HU.out _))
        refine wpQuiet_nil ?_
        intro w2 hw2
        have hw2 := Lib.hid (Nw.of_regrown hw2)
        clear hwr hg hfull hlk hln
        go_wp2
        go_ret
        exact ⟨by rw [r.out]; rfl, hw1.trans hw2.out⟩
end Go.Proofs.YtoikjiojhlfgiaaGreatDoor

/-
  The other closures that say whether an operation may be done.
-/
namespace Go.Proofs.YtoikjiojhlfgiaaGreatDoor
open Go Go.RowKit Go.Sort
set_option maxRecDepth 100000
set_option maxHeartbeats 800000

theorem Sync1_ok {w : World} {b : Nat} {d : Dsk} {S : Nat → Prop} (h : DiskIn w b d S) (n : Str) (pn pd : Nat)
    (hn : w.cell? ⟨pn, 0, none⟩ = some (.string ⟨n.toArray⟩)) (hd : w.cell? ⟨pd, 0, none⟩ = some (.pointer (some ⟨b, 0, none⟩))) :
    Calls Tryz.prog 129 #[.pointer (some ⟨pd, 0, none⟩), .pointer (some ⟨pn, 0, none⟩)] w fun e w' => e = .returned (.int .i64 (d.there n)) ∧ Nw w w' := by
  have H := Lib.hid (there_calls h n)
  clear h
  go_enter Tryz.func129, Tryz.ntmps129
  go_wp2_with (go_at_call 109; refine H.out.mono ?_; rintro e w' ⟨rfl, rfl⟩)
  go_ret
  exact ⟨rfl, Nw.refl _⟩
theorem Remove1_ok {w : World} {b : Nat} {d : Dsk} {S : Nat → Prop} (h : DiskIn w b d S) (n : Str) (pn pd : Nat)
    (hn : w.cell? ⟨pn, 0, none⟩ = some (.string ⟨n.toArray⟩)) (hd : w.cell? ⟨pd, 0, none⟩ = some (.pointer (some ⟨b, 0, none⟩))) :
    Calls Tryz.prog 188 #[.pointer (some ⟨pd, 0, none⟩), .pointer (some ⟨pn, 0, none⟩)] w fun e w' => e = .returned (.int .i64 (d.there n)) ∧ Nw w w' := by
  have H := Lib.hid (there_calls h n)
  clear h
  go_enter Tryz.func188, Tryz.ntmps188
  go_wp2_with (go_at_call 109; refine H.out.mono ?_; rintro e w' ⟨rfl, rfl⟩)
  go_ret
  exact ⟨rfl, Nw.refl _⟩

def Dsk.mayRename (d : Dsk) (a b : Str) : Int := if okName b then d.there a else 13
theorem Rename1_ok {w : World} {b : Nat} {d : Dsk} {S : Nat → Prop} (h : DiskIn w b d S) (n t : Str) (pn pd pt : Nat)
    (hn : w.cell? ⟨pn, 0, none⟩ = some (.string ⟨n.toArray⟩)) (hd : w.cell? ⟨pd, 0, none⟩ = some (.pointer (some ⟨b, 0, none⟩))) (ht : w.cell? ⟨pt, 0, none⟩ = some (.string ⟨t.toArray⟩))
    (htl : t.length ≤ 9223372036854775807) :
    Calls Tryz.prog 156 #[.pointer (some ⟨pt, 0, none⟩), .pointer (some ⟨pd, 0, none⟩), .pointer (some ⟨pn, 0, none⟩)] w fun e w' => e = .returned (.int .i64 (d.mayRename n t)) ∧ Nw w w' := by
  have hR := Lib.hid (right_calls t w htl)
  have HH := Lib.hid h
  clear h
  cases hok : okName t
  case false =>
    have r : Hid (d.mayRename n t = 13) := by show d.mayRename n t = 13; simp [Dsk.mayRename, hok]
    rw [hok] at hR
    clear hok
    go_enter Tryz.func156, Tryz.ntmps156
    go_wp2_with (go_at_call 90; refine hR.out.mono ?_; rintro e w1 ⟨rfl, hw1⟩)
    go_ret
    exact ⟨by rw [r.out]; rfl, hw1⟩
  case true =>
    have r : Hid (d.mayRename n t = d.there n) := by show d.mayRename n t = d.there n; simp [Dsk.mayRename, hok]
    rw [hok] at hR
    clear hok
    go_enter Tryz.func156, Tryz.ntmps156
    go_wp2_with (go_at_call 90; refine hR.out.mono ?_)
    rintro e w1 ⟨rfl, hw1⟩
    have e1 := hw1.cell hn
    have e2 := hw1.cell hd
    have H := Lib.hid (there_calls (HH.out.nw hw1) n)
    go_wp2_with (go_at_call 109; refine H.out.mono ?_; rintro e w' ⟨rfl, rfl⟩)
    go_ret
    exact ⟨by rw [r.out]; rfl, hw1⟩

end Go.Proofs.YtoikjiojhlfgiaaGreatDoor

/-
  The disk in memory, step by step: a file more, a file turned, a file gone; and that a disk stays one that may be.
-/
namespace Go.Proofs.YtoikjiojhlfgiaaGreatDoor
open Go Go.RowKit

/-! ### Lists of blocks -/
theorem dskBlocks_mid (b m : Nat) (A B : List FE) (f : FE) : dskBlocks b m (A ++ f :: B) = (b :: m :: A.flatMap FE.blocks) ++ f.fb :: (f.sl.ownBlock.toList ++ B.flatMap FE.blocks) := by
  simp [dskBlocks, FE.blocks]
theorem dskBlocks_two (b m : Nat) (A B : List FE) : dskBlocks b m (A ++ B) = (b :: m :: A.flatMap FE.blocks) ++ B.flatMap FE.blocks := by
  simp [dskBlocks]

theorem nodup_fresh {X Y t t' : List Nat} {fb N : Nat} (h : (X ++ fb :: (t ++ Y)).Nodup) (hlt : ∀ k ∈ X ++ fb :: (t ++ Y), k < N) (ht : t' = t ∨ t' = [] ∨ ∃ g, t' = [g] ∧ N ≤ g) : (X ++ fb :: (t' ++ Y)).Nodup := by
  rcases ht with rfl | ht
  · exact h
  · have hsub : (X ++ fb :: Y).Sublist (X ++ fb :: (t ++ Y)) := List.Sublist.append_left (List.Sublist.cons_cons _ (List.sublist_append_right _ _)) _
    have h1 : (X ++ fb :: Y).Nodup := hsub.nodup h
    rcases ht with rfl | ⟨g, rfl, hg⟩
    · exact h1
    · have hp : (X ++ fb :: ([g] ++ Y)).Perm (g :: (X ++ fb :: Y)) := by
        have e1 : X ++ fb :: ([g] ++ Y) = (X ++ [fb]) ++ g :: Y := by simp
        have e2 : X ++ fb :: Y = (X ++ [fb]) ++ Y := by simp
        rw [e1, e2]
        exact List.perm_middle
      rw [hp.nodup_iff, List.nodup_cons]
      refine ⟨fun hc => ?_, h1⟩
      have := hlt g (hsub.subset hc)
      omega

/-! ### A disk stays one that may be -/
theorem usedF_append (A B : List (Str × DFile)) : usedF (A ++ B) = usedF A + usedF B := by simp [usedF]
theorem usedF_mid (A B : List (Str × DFile)) (n : Str) (f : DFile) : usedF (A ++ (n, f) :: B) = usedF A + f.bytes.length + usedF B := by
  simp [usedF, Nat.add_assoc]
theorem namesF_append (A B : List (Str × DFile)) : namesF (A ++ B) = namesF A ++ namesF B := by simp [namesF]

theorem Dsk.Ok.upd {d : Dsk} (ok : d.Ok) {A B : List (Str × DFile)} {n : Str} {f g : DFile} (hd : d.files = A ++ (n, f) :: B) (hs : g.synced ≤ g.bytes.length) (hu : (usedF A + g.bytes.length + usedF B : Nat) ≤ d.most) :
    ({ d with files := A ++ (n, g) :: B } : Dsk).Ok := by
  have hn := ok.names
  have hnn := ok.named
  have hf := ok.few
  have hsy := ok.synced
  rw [hd] at hn hnn hf hsy
  refine ⟨ok.most0, ok.most1, ok.arm0, ok.arm1, ?_, ?_, ?_, ?_, ?_⟩
  · simpa [namesF] using hn
  · simpa [namesF] using hnn
  · simpa using hf
  · show ((usedF (A ++ (n, g) :: B) : Nat) : Int) ≤ d.most
    rw [usedF_mid]; exact hu
  · intro x hx
    simp only [List.mem_append, List.mem_cons] at hx hsy
    rcases hx with hx | rfl | hx
    · exact hsy x (.inl hx)
    · exact hs
    · exact hsy x (.inr (.inr hx))

theorem Dsk.Ok.add {d : Dsk} (ok : d.Ok) {n : Str} (hn : n ∉ namesF d.files) (hok : okName n = true) (hf : d.files.length < 200) : ({ d with files := d.files ++ [(n, ⟨[], 0⟩)] } : Dsk).Ok := by
  refine ⟨ok.most0, ok.most1, ok.arm0, ok.arm1, ?_, ?_, ?_, ?_, ?_⟩
  · show (namesF (d.files ++ [(n, ⟨[], 0⟩)])).Nodup
    rw [namesF_append, List.nodup_append]
    refine ⟨ok.names, by simp [namesF], ?_⟩
    intro a ha c hc e
    simp [namesF] at hc
    subst hc; subst e; exact hn ha
  · intro k hk
    have hk' : k ∈ namesF (d.files ++ [(n, ⟨[], 0⟩)]) := hk
    rw [namesF_append, List.mem_append] at hk'
    rcases hk' with hk | hk
    · exact ok.named k hk
    · simp [namesF] at hk; subst hk; exact hok
  · show (d.files ++ [(n, (⟨[], 0⟩ : DFile))]).length ≤ 200
    simp; omega
  · show ((usedF (d.files ++ [(n, ⟨[], 0⟩)]) : Nat) : Int) ≤ d.most
    rw [usedF_append]; simpa [usedF] using ok.used
  · intro x hx
    have hx' : x ∈ d.files ++ [(n, (⟨[], 0⟩ : DFile))] := hx
    rw [List.mem_append] at hx'
    rcases hx' with hx | hx
    · exact ok.synced x hx
    · simp at hx; subst hx; exact Nat.le_refl _

theorem Dsk.Ok.del {d : Dsk} (ok : d.Ok) {A B : List (Str × DFile)} {x : Str × DFile} (hd : d.files = A ++ x :: B) : ({ d with files := A ++ B } : Dsk).Ok := by
  have hsub : (A ++ B).Sublist d.files := by rw [hd]; exact List.Sublist.append_left (List.sublist_cons_self _ _) _
  refine ⟨ok.most0, ok.most1, ok.arm0, ok.arm1, (hsub.map Prod.fst).nodup ok.names, fun k hk => ok.named k ((hsub.map Prod.fst).subset hk), Nat.le_trans hsub.length_le ok.few, ?_, fun x hx => ok.synced x (hsub.subset hx)⟩
  show ((usedF (A ++ B) : Nat) : Int) ≤ d.most
  have h := ok.used
  rw [hd] at h
  obtain ⟨k, g⟩ := x
  rw [usedF_mid] at h
  rw [usedF_append]; omega

/-! ### In memory -/
theorem DiskAt.mem {w : World} {b m : Nat} {d : Dsk} {A B : List FE} {f : FE} (h : DiskAt w b m d (A ++ f :: B)) : f.At w := h.file f (by simp)

theorem nf_mid (A B : List FE) (f : FE) : (A ++ f :: B).map FE.nf = A.map FE.nf ++ (f.name, f.file) :: B.map FE.nf := by simp [FE.nf]
theorem names_of_FE (A : List FE) : namesF (A.map FE.nf) = A.map FE.name := by simp [namesF, List.map_map, Function.comp_def, FE.nf]

/-- A file is turned. -/
theorem DiskAt.upd {w w' : World} {b m : Nat} {d : Dsk} {A B : List FE} {f : FE} (h : DiskAt w b m d (A ++ f :: B)) (g : DFile) (sl : Value)
    (ho : ∀ k, k < w.heap.size → k ∉ f.blocks → w'.heap[k]? = w.heap[k]?)
    (hf : FE.At w' { f with file := g, sl := sl }) (hsl : sl.ownBlock = f.sl.ownBlock ∨ ∀ k, sl.ownBlock = some k → w.heap.size ≤ k) (hA : f.name ∉ A.map FE.name)
    (hs : g.synced ≤ g.bytes.length) (hu : (usedF (A.map FE.nf) + g.bytes.length + usedF (B.map FE.nf) : Nat) ≤ d.most) :
    DiskAt w' b m { d with files := setF d.files f.name g } (A ++ { f with file := g, sl := sl } :: B) := by
  have hfile : d.files = A.map FE.nf ++ (f.name, f.file) :: B.map FE.nf := by rw [h.files, nf_mid]
  have hset : setF d.files f.name g = A.map FE.nf ++ (f.name, g) :: B.map FE.nf := by
    rw [hfile]; exact setF_hit (by rw [names_of_FE]; exact hA)
  have hnd := h.nodup
  rw [dskBlocks_mid] at hnd
  have hlt := h.lt
  rw [dskBlocks_mid] at hlt
  have hdis : ∀ k, k ∈ (b :: m :: A.flatMap FE.blocks) ∨ k ∈ B.flatMap FE.blocks → k ∉ f.blocks := by
    intro k hk hc
    have hc' : k ∈ f.fb :: f.sl.ownBlock.toList := hc
    have e : (b :: m :: A.flatMap FE.blocks) ++ f.fb :: (f.sl.ownBlock.toList ++ B.flatMap FE.blocks) = (b :: m :: A.flatMap FE.blocks) ++ ((f.fb :: f.sl.ownBlock.toList) ++ B.flatMap FE.blocks) := by simp
    rw [e, List.nodup_append] at hnd
    rcases hk with hk | hk
    · exact hnd.2.2 k hk k (List.mem_append_left _ hc') rfl
    · exact (List.nodup_append.1 hnd.2.1).2.2 k hc' k hk rfl
  have hltX : ∀ k, k ∈ (b :: m :: A.flatMap FE.blocks) ∨ k ∈ B.flatMap FE.blocks → k < w.heap.size := fun k hk => hlt k (by
    rcases hk with hk | hk
    · exact List.mem_append_left _ hk
    · exact List.mem_append_right _ (List.mem_cons_of_mem _ (List.mem_append_right _ hk)))
  have same : ∀ k, k ∈ (b :: m :: A.flatMap FE.blocks) ∨ k ∈ B.flatMap FE.blocks → w'.heap[k]? = w.heap[k]? := fun k hk => ho k (hltX k hk) (hdis k hk)
  obtain ⟨clock, h1, h2⟩ := h.map
  refine ⟨?_, ⟨clock, ?_, ?_⟩, ?_, ?_, ?_, ?_, ?_⟩
  · rw [same b (.inl (by simp))]; exact h.hdr
  · rw [same m (.inl (by simp))]
    have : (A ++ { f with file := g, sl := sl } :: B).map FE.en = (A ++ f :: B).map FE.en := by simp [FE.en]
    rw [this]; exact h1
  · intro x hx
    simp only [List.mem_append, List.mem_cons] at hx
    rcases hx with hx | rfl | hx
    · exact h2 x (by simp [hx])
    · exact h2 f (by simp)
    · exact h2 x (by simp [hx])
  · show setF d.files f.name g = _
    rw [hset, nf_mid]
  · intro x hx
    simp only [List.mem_append, List.mem_cons] at hx
    rcases hx with hx | rfl | hx
    · exact (h.file x (by simp [hx])).keep fun k hk => same k (.inl (by simp only [List.mem_cons, List.mem_flatMap]; exact .inr (.inr ⟨x, hx, hk⟩)))
    · exact hf
    · exact (h.file x (by simp [hx])).keep fun k hk => same k (.inr (by rw [List.mem_flatMap]; exact ⟨x, hx, hk⟩))
  · rw [dskBlocks_mid]
    refine nodup_fresh hnd hlt ?_
    show sl.ownBlock.toList = _ ∨ _
    rcases hsl with hsl | hsl
    · exact .inl (by rw [hsl])
    · cases hb : sl.ownBlock with
      | none => exact .inr (.inl rfl)
      | some k => exact .inr (.inr ⟨k, rfl, hsl k hb⟩)
  · have : (A ++ { f with file := g, sl := sl } :: B).map FE.born = (A ++ f :: B).map FE.born := by simp
    rw [this]; exact h.born
  · rw [hset]
    exact h.ok.upd hfile hs hu

/-- The blocks behind a file's turn: the old ones, or new ones. -/
theorem blocks_upd {b m N : Nat} {A B : List FE} {f : FE} {g : DFile} {sl : Value} (hsl : sl.ownBlock = f.sl.ownBlock ∨ ∀ k, sl.ownBlock = some k → N ≤ k) :
    ∀ k ∈ dskBlocks b m (A ++ { f with file := g, sl := sl } :: B), k ∈ dskBlocks b m (A ++ f :: B) ∨ N ≤ k := by
  intro k hk
  rw [dskBlocks_mid] at hk
  rw [dskBlocks_mid]
  simp only [List.mem_append, List.mem_cons, Option.mem_toList] at hk ⊢
  rcases hk with hk | hk | hk | hk
  · exact .inl (.inl hk)
  · exact .inl (.inr (.inl hk))
  · rcases hsl with hsl | hsl
    · rw [hsl] at hk; exact .inl (.inr (.inr (.inl hk)))
    · exact .inr (hsl k hk)
  · exact .inl (.inr (.inr (.inr hk)))

/-- A file more. -/
theorem DiskAt.add {w w' : World} {b m clock : Nat} {d : Dsk} {fs : List FE} (h : DiskAt w b m d fs) (n : Str) (fb : Nat) (hclk : ∀ f ∈ fs, f.born < clock)
    (hm : w'.heap[m]? = some (.map (ents (fs.map FE.en ++ [⟨n, .pointer (some ⟨fb, 0, none⟩), clock⟩])) (clock + 1))) (hfb : w'.heap[fb]? = some (.cells #[.slice none 0 0, .int .i64 0] 126 (0, 0))) (hnew : w.heap.size ≤ fb)
    (ho : ∀ k, k < w.heap.size → k ≠ m → w'.heap[k]? = w.heap[k]?) (hn : n ∉ namesF d.files) (hok : okName n = true) (hfew : d.files.length < 200) :
    DiskAt w' b m { d with files := d.files ++ [(n, ⟨[], 0⟩)] } (fs ++ [⟨n, ⟨[], 0⟩, fb, .slice none 0 0, clock⟩]) := by
  have hnd := h.nodup
  have hlt := h.lt
  have hbm : b ≠ m := by simp only [dskBlocks, List.nodup_cons, List.mem_cons, not_or] at hnd; exact hnd.1.1
  have hmf : ∀ f ∈ fs, m ∉ f.blocks := by
    simp only [dskBlocks, List.nodup_cons, List.mem_cons, List.mem_flatMap, not_or] at hnd
    exact fun f hf hc => hnd.2.1 ⟨f, hf, hc⟩
  refine ⟨?_, ⟨clock + 1, ?_, ?_⟩, ?_, ?_, ?_, ?_, h.ok.add hn hok hfew⟩
  · rw [ho b (hlt b (by simp [dskBlocks])) hbm]; exact h.hdr
  · rw [hm]; simp [FE.en]
  · intro x hx
    simp only [List.mem_append, List.mem_singleton] at hx
    rcases hx with hx | rfl
    · have := hclk x hx; omega
    · exact Nat.lt_succ_self _
  · show d.files ++ _ = _
    rw [h.files]; simp [FE.nf]
  · intro x hx
    simp only [List.mem_append, List.mem_singleton] at hx
    rcases hx with hx | rfl
    · exact (h.file x hx).keep fun k hk => ho k (hlt k (by simp only [dskBlocks, List.mem_cons, List.mem_flatMap]; exact .inr (.inr ⟨x, hx, hk⟩))) (fun e => hmf x hx (e ▸ hk))
    · exact ⟨hfb, RowF.nil⟩
  · have : dskBlocks b m (fs ++ [⟨n, ⟨[], 0⟩, fb, .slice none 0 0, clock⟩]) = dskBlocks b m fs ++ [fb] := by simp [dskBlocks, FE.blocks, Value.ownBlock]
    rw [this, List.nodup_append]
    refine ⟨hnd, by simp, ?_⟩
    intro k hk c hc e
    simp at hc
    have := hlt k hk
    omega
  · rw [List.map_append, List.nodup_append]
    refine ⟨h.born, by simp, ?_⟩
    intro k hk c hc e
    obtain ⟨x, hx, rfl⟩ := List.mem_map.1 hk
    simp at hc
    have := hclk x hx
    omega
end Go.Proofs.YtoikjiojhlfgiaaGreatDoor
