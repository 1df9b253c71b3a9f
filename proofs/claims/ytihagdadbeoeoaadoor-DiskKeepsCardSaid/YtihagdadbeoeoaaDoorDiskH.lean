/-
  The other closures that say whether an operation may be done.
-/
import Derived.Test.YtihagdadbeoeoaaDoorDiskG
namespace Go.Proofs.YtihagdadbeoeoaaDoor
open Go Go.RowKit Go.Sort
set_option maxRecDepth 100000
set_option maxHeartbeats 800000

theorem Sync1_ok {w : World} {b : Nat} {d : Dsk} {S : Nat → Prop} (h : DiskIn w b d S) (n : Str) (pn pd : Nat)
    (hn : w.cell? ⟨pn, 0, none⟩ = some (.string ⟨n.toArray⟩)) (hd : w.cell? ⟨pd, 0, none⟩ = some (.pointer (some ⟨b, 0, none⟩))) :
    Calls Tryd.prog 54 #[.pointer (some ⟨pd, 0, none⟩), .pointer (some ⟨pn, 0, none⟩)] w fun e w' => e = .returned (.int .i64 (d.there n)) ∧ Nw w w' := by
  have H := Lib.hid (there_calls h n)
  clear h
  go_enter Tryd.func54, Tryd.ntmps54
  go_wp2_with (go_at_call 55; refine H.out.mono ?_; rintro e w' ⟨rfl, rfl⟩)
  go_ret
  exact ⟨rfl, Nw.refl _⟩
theorem Remove1_ok {w : World} {b : Nat} {d : Dsk} {S : Nat → Prop} (h : DiskIn w b d S) (n : Str) (pn pd : Nat)
    (hn : w.cell? ⟨pn, 0, none⟩ = some (.string ⟨n.toArray⟩)) (hd : w.cell? ⟨pd, 0, none⟩ = some (.pointer (some ⟨b, 0, none⟩))) :
    Calls Tryd.prog 70 #[.pointer (some ⟨pd, 0, none⟩), .pointer (some ⟨pn, 0, none⟩)] w fun e w' => e = .returned (.int .i64 (d.there n)) ∧ Nw w w' := by
  have H := Lib.hid (there_calls h n)
  clear h
  go_enter Tryd.func70, Tryd.ntmps70
  go_wp2_with (go_at_call 55; refine H.out.mono ?_; rintro e w' ⟨rfl, rfl⟩)
  go_ret
  exact ⟨rfl, Nw.refl _⟩

def Dsk.mayRename (d : Dsk) (a b : Str) : Int := if okName b then d.there a else 13
theorem Rename1_ok {w : World} {b : Nat} {d : Dsk} {S : Nat → Prop} (h : DiskIn w b d S) (n t : Str) (pn pd pt : Nat)
    (hn : w.cell? ⟨pn, 0, none⟩ = some (.string ⟨n.toArray⟩)) (hd : w.cell? ⟨pd, 0, none⟩ = some (.pointer (some ⟨b, 0, none⟩))) (ht : w.cell? ⟨pt, 0, none⟩ = some (.string ⟨t.toArray⟩))
    (htl : t.length ≤ 9223372036854775807) :
    Calls Tryd.prog 57 #[.pointer (some ⟨pt, 0, none⟩), .pointer (some ⟨pd, 0, none⟩), .pointer (some ⟨pn, 0, none⟩)] w fun e w' => e = .returned (.int .i64 (d.mayRename n t)) ∧ Nw w w' := by
  have hR := Lib.hid (right_calls t w htl)
  have HH := Lib.hid h
  clear h
  cases hok : okName t
  case false =>
    have r : Hid (d.mayRename n t = 13) := by show d.mayRename n t = 13; simp [Dsk.mayRename, hok]
    rw [hok] at hR
    clear hok
    go_enter Tryd.func57, Tryd.ntmps57
    go_wp2_with (go_at_call 52; refine hR.out.mono ?_; rintro e w1 ⟨rfl, hw1⟩)
    go_ret
    exact ⟨by rw [r.out]; rfl, hw1⟩
  case true =>
    have r : Hid (d.mayRename n t = d.there n) := by show d.mayRename n t = d.there n; simp [Dsk.mayRename, hok]
    rw [hok] at hR
    clear hok
    go_enter Tryd.func57, Tryd.ntmps57
    go_wp2_with (go_at_call 52; refine hR.out.mono ?_)
    rintro e w1 ⟨rfl, hw1⟩
    have e1 := hw1.cell hn
    have e2 := hw1.cell hd
    have H := Lib.hid (there_calls (HH.out.nw hw1) n)
    go_wp2_with (go_at_call 55; refine H.out.mono ?_; rintro e w' ⟨rfl, rfl⟩)
    go_ret
    exact ⟨by rw [r.out]; rfl, hw1⟩

theorem Cut1_ok {w : World} {b : Nat} {d : Dsk} {S : Nat → Prop} (h : DiskIn w b d S) (n : Str) (k : Int) (pn pd pk : Nat)
    (hn : w.cell? ⟨pn, 0, none⟩ = some (.string ⟨n.toArray⟩)) (hd : w.cell? ⟨pd, 0, none⟩ = some (.pointer (some ⟨b, 0, none⟩))) (hk : w.cell? ⟨pk, 0, none⟩ = some (.int .i64 k)) :
    Calls Tryd.prog 72 #[.pointer (some ⟨pd, 0, none⟩), .pointer (some ⟨pn, 0, none⟩), .pointer (some ⟨pk, 0, none⟩)] w fun e w' => e = .returned (.int .i64 (d.mayCut n k)) ∧ Nw w w' := by
  obtain ⟨m, fs, hD, hS⟩ := h
  obtain ⟨c0, c1, -, -, -⟩ := hdr_cells hD.hdr
  obtain ⟨clock, hmap, -⟩ := hD.map
  have d0 := cellG hn
  have d1 := cellG hd
  have d2 := cellG hk
  have d3 := cellG c0
  have hlk : ∀ p : Regrown, (Instr.lookup 67 (.map (some m)) (.string ⟨n.toArray⟩) false).run Tryd.prog (grow (redrawn w p.d) p.os) = .ok (.pointer (ptrOf fs n)) (grow (redrawn w p.d) p.os) := fun p =>
    look_file ((Nw.of_regrown ⟨p, rfl⟩ : Nw w _).at_ hmap) n
  rcases ptrOf_spec hD n with ⟨hnn, hp, hg⟩ | ⟨A, f, B, hfs, -, -, hp, hnn, hg⟩
  · rw [hp] at hlk
    have r : Hid (d.mayCut n k = 13) := by show d.mayCut n k = 13; simp [Dsk.mayCut, hg]
    clear hp hnn hD hmap hn hd hk c0 hg
    go_enter Tryd.func72, Tryd.ntmps72
    go_wp2
    refine wp_region_quiet_below (by kernel_rfl) (by kernel_rfl) ?_
    repeat (first | go_big_quiet_step (fail) | quiet_step (fail))
    refine wpQuiet_nil ?_
    intro w2 hw2
    have hw2 := Lib.hid (Nw.of_regrown hw2)
    clear hlk
    go_wp2
    go_ret
    exact ⟨by rw [r.out]; rfl, hw2.out⟩
  · rw [hp] at hlk
    have hf := hD.file f (by rw [hfs]; simp)
    obtain ⟨sa, sc, hsl, hlm⟩ := hf.own.rd.len
    have f0 : w.cell? ⟨f.fb, 0, none⟩ = some (.slice sa f.file.bytes.length sc) := by rw [← hsl]; simp [World.cell?, hf.blk]
    have hlen := bytes_le hD.ok hg
    generalize hL : f.file.bytes.length = L at *
    have r : Hid (d.mayCut n k = if k < 0 ∨ (L : Int) < k then 2 else 0) := by show d.mayCut n k = _; simp [Dsk.mayCut, hg, hL]
    clear hp hnn hD hmap hg hfs hf hsl hL hlm d0 d1 d2 d3
    have hcase : (k < 0) ∨ (0 ≤ k ∧ (L : Int) < k) ∨ (0 ≤ k ∧ k ≤ (L : Int)) := by omega
    rcases hcase with h1 | ⟨h1, h2⟩ | ⟨h1, h2⟩
    all_goals
      go_enter Tryd.func72, Tryd.ntmps72
      go_wp2
      have d0 := cellG hn
      have d1 := cellG hd
      have d3 := cellG c0
      refine wp_region_quiet_below (by kernel_rfl) (by kernel_rfl) ?_
      repeat (first | go_big_quiet_step (fail) | quiet_step (fail))
      refine wpQuiet_nil ?_
      intro w2 hw2
      have hw2 := Nw.of_regrown hw2
      have f1 := cellG (hw2.cell f0)
      have k1 := cellG (hw2.cell hk)
      have HW := Lib.hid hw2
      clear hlk d0 d1 d3 hw2 hk
      go_wp2
      first
        | (have q1 : decide (k < 0) = true := by simpa using h1
           have r2 : Hid (d.mayCut n k = 2) := by show d.mayCut n k = 2; rw [r.out, if_pos (by omega)]
           refine wp_region_quiet_below (by kernel_rfl) (by kernel_rfl) ?_
           repeat (first | go_big_quiet_step (fail) | quiet_step (fail))
           refine wpQuiet_nil ?_
           intro w3 hw3
           have hw3 := Lib.hid (Nw.of_regrown hw3)
           clear f1 k1 q1
           go_wp2
           go_ret
           exact ⟨by rw [r2.out]; rfl, HW.out.trans hw3.out⟩)
        | (have q1 : decide (k < 0) = false := by simpa using h1
           have q2 : decide ((L : Int) < k) = true := by simpa using h2
           have r2 : Hid (d.mayCut n k = 2) := by show d.mayCut n k = 2; rw [r.out, if_pos (by omega)]
           refine wp_region_quiet_below (by kernel_rfl) (by kernel_rfl) ?_
           repeat (first | go_big_quiet_step (fail) | quiet_step (fail))
           refine wpQuiet_nil ?_
           intro w3 hw3
           have hw3 := Lib.hid (Nw.of_regrown hw3)
           clear f1 k1 q1 q2
           go_wp2
           go_ret
           exact ⟨by rw [r2.out]; rfl, HW.out.trans hw3.out⟩)
        | (have q1 : decide (k < 0) = false := by simpa using h1
           have q2 : decide ((L : Int) < k) = false := by simpa using h2
           have r2 : Hid (d.mayCut n k = 0) := by show d.mayCut n k = 0; rw [r.out, if_neg (by omega)]
           refine wp_region_quiet_below (by kernel_rfl) (by kernel_rfl) ?_
           repeat (first | go_big_quiet_step (fail) | quiet_step (fail))
           refine wpQuiet_nil ?_
           intro w3 hw3
           have hw3 := Lib.hid (Nw.of_regrown hw3)
           clear f1 k1 q1 q2
           go_wp2
           go_ret
           exact ⟨by rw [r2.out]; rfl, HW.out.trans hw3.out⟩)
end Go.Proofs.YtihagdadbeoeoaaDoor
