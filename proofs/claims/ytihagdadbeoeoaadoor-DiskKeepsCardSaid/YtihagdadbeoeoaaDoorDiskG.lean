/-
  The closures that say whether an operation may be done.
-/
import Derived.Test.YtihagdadbeoeoaaDoorDiskF
namespace Go.Proofs.YtihagdadbeoeoaaDoor
open Go Go.RowKit Go.Sort
set_option maxRecDepth 100000
set_option maxHeartbeats 800000

/-- A call in a drawn region, by a contract that holds in every later world. -/
theorem quiet_nw {P : Program} {f : FuncId} {args : Array Value} {w : World} {p : Regrown} {v : Value} (h : ∀ w1, Nw w w1 → Calls P f args w1 fun e w' => e = .returned v ∧ Nw w1 w') :
    Calls P f args (grow (redrawn w p.d) p.os) fun e w'' => e = .returned v ∧ ∃ p' : Regrown, w'' = grow (redrawn w p'.d) p'.os := by
  have hp : Nw w (grow (redrawn w p.d) p.os) := Nw.of_regrown ⟨p, rfl⟩
  exact (h _ hp).mono fun e w' ⟨he, hw⟩ => ⟨he, (hp.trans hw).regrown⟩

/-- A fact on a cell, in the form that a drawn region wants. -/
theorem cellG {w : World} {a : Addr} {v : Value} (h : w.cell? a = some v) : ∀ (p : Regrown), (grow (redrawn w p.d) p.os).cell? a = some v := fun p => cell_regrown h p.d p.os

theorem Append1_ok {w : World} {b : Nat} {d : Dsk} {S : Nat → Prop} (h : DiskIn w b d S) (n : Str) (l : List UInt8) (pn pd pb : Nat) (src : Value)
    (hn : w.cell? ⟨pn, 0, none⟩ = some (.string ⟨n.toArray⟩)) (hd : w.cell? ⟨pd, 0, none⟩ = some (.pointer (some ⟨b, 0, none⟩))) (hb : w.cell? ⟨pb, 0, none⟩ = some src) (hs : Bs w src l)
    (hnl : n.length ≤ 9223372036854775807) (hll : l.length ≤ 140737488355328) :
    Calls Tryd.prog 51 #[.pointer (some ⟨pn, 0, none⟩), .pointer (some ⟨pd, 0, none⟩), .pointer (some ⟨pb, 0, none⟩)] w fun e w' => e = .returned (.int .i64 (d.mayAppend n l)) ∧ Nw w w' := by
  have hR := Lib.hid (right_calls n w hnl)
  cases hok : okName n
  case false =>
    have r : Hid (d.mayAppend n l = 13) := by show d.mayAppend n l = 13; simp [Dsk.mayAppend, hok]
    rw [hok] at hR
    clear hok h hs hb hd
    go_enter Tryd.func51, Tryd.ntmps51
    go_wp2_with (go_at_call 52; refine hR.out.mono ?_; rintro e w1 ⟨rfl, hw1⟩)
    go_ret
    exact ⟨by rw [r.out]; rfl, hw1⟩
  case true =>
    rw [hok] at hR
    have HH := Lib.hid h
    obtain ⟨m, fs, hD, hS⟩ := h
    obtain ⟨c0, c1, -, -, -⟩ := hdr_cells hD.hdr
    obtain ⟨clock, hmap, -⟩ := hD.map
    obtain ⟨sa, sc, rfl, hlm⟩ := hs.len
    have hok' := hD.ok
    have hmost0 := hok'.most0
    have hmost := hok'.most1
    have hused := hok'.used
    have hlen : d.files.length = fs.length := by rw [hD.files]; simp
    go_enter Tryd.func51, Tryd.ntmps51
    go_wp2_with (go_at_call 52; refine hR.out.mono ?_; rintro e w1 ⟨rfl, hw1⟩)
    have d0 := cellG (hw1.cell hn)
    have d1 := cellG (hw1.cell hd)
    have d2 := cellG (hw1.cell hb)
    have d3 := cellG (hw1.cell c0)
    have d4 := cellG (hw1.cell c1)
    have hm1 := hw1.at_ hmap
    have HU : Hid (∀ p : Regrown, Calls Tryd.prog 42 #[.pointer (some ⟨b, 0, none⟩)] (grow (redrawn w1 p.d) p.os) fun e w'' => e = .returned (.int .i64 (usedF d.files)) ∧ ∃ p' : Regrown, w'' = grow (redrawn w1 p'.d) p'.os) := fun p => quiet_nw fun w2 hw2 => Used_ok ((HH.out.nw hw1).nw hw2)
    have hlk : ∀ p : Regrown, (Instr.lookup 67 (.map (some m)) (.string ⟨n.toArray⟩) false).run Tryd.prog (grow (redrawn w1 p.d) p.os) = .ok (.pointer (ptrOf fs n)) (grow (redrawn w1 p.d) p.os) := fun p =>
      look_file ((Nw.of_regrown ⟨p, rfl⟩ : Nw w1 _).at_ hm1) n
    have hln : ∀ (p : Regrown) (ty : TypeId), (Builtin.len_ #[67] ty #[.map (some m)]).run Tryd.prog (grow (redrawn w1 p.d) p.os) = .ok (.int .i64 fs.length) (grow (redrawn w1 p.d) p.os) := fun p ty => by
      have := run_len_map (P := Tryd.prog) ty Tryd.underlying67 ((Nw.of_regrown ⟨p, rfl⟩ : Nw w1 _).at_ hm1)
      rwa [List.length_map] at this
    clear hm1 c0 c1 hn hd hb hs hmap
    have HD := Lib.hid hD; clear hD
    have hwr : IntKind.i64.wrap ((usedF d.files : Int) + (l.length : Int)) = (usedF d.files : Int) + (l.length : Int) := IntWalk.i64_in _ (by omega)
    by_cases hfull : d.most < (usedF d.files + l.length : Nat)
    · have hg : decide (d.most < (usedF d.files : Int) + (l.length : Int)) = true := by simp; omega
      have r : Hid (d.mayAppend n l = 5) := by show d.mayAppend n l = 5; unfold Dsk.mayAppend; rw [if_pos hok, if_pos (.inl hfull)]
      refine wp_region_quiet_below (by kernel_rfl) (by kernel_rfl) ?_
      repeat (first | go_big_quiet_step (exact HU.out _) | quiet_step (exact HU.out _))
      refine wpQuiet_nil ?_
      intro w2 hw2
      have hw2 := Lib.hid (Nw.of_regrown hw2)
      clear hwr hg hfull
      go_wp2
      go_ret
      exact ⟨by rw [r.out]; rfl, hw1.trans hw2.out⟩
    · have hg : decide (d.most < (usedF d.files : Int) + (l.length : Int)) = false := by simp; omega
      rcases ptrOf_spec HD.out n with ⟨hnn, hp, -⟩ | ⟨A, f, B, -, -, -, hp, hnn, -⟩
      · rw [hp] at hlk
        by_cases hmany : 200 ≤ fs.length
        · have hg2 : decide (200 ≤ fs.length) = true := by simp; omega
          have hg3 : decide ((200 : Int) ≤ (fs.length : Int)) = true := by simp; omega
          have r : Hid (d.mayAppend n l = 5) := by show d.mayAppend n l = 5; unfold Dsk.mayAppend; rw [if_pos hok, if_pos (.inr ⟨hnn, by omega⟩)]
          clear hp hnn hlen
          refine wp_region_quiet_below (by kernel_rfl) (by kernel_rfl) ?_
          repeat (first | go_big_quiet_step (exact HU.out _) | quiet_step (exact HU.out _))
          refine wpQuiet_nil ?_
          intro w2 hw2
          have hw2 := Lib.hid (Nw.of_regrown hw2)
          clear hwr hg hfull hlk hln
          go_wp2
          go_ret
          exact ⟨by rw [r.out]; rfl, hw1.trans hw2.out⟩
        · have hg2 : decide (200 ≤ fs.length) = false := by simp; omega
          have hg3 : decide ((200 : Int) ≤ (fs.length : Int)) = false := by simp; omega
          have r : Hid (d.mayAppend n l = 0) := by show d.mayAppend n l = 0; unfold Dsk.mayAppend; rw [if_pos hok, if_neg (by rintro (h | ⟨-, h⟩); exact hfull h; omega)]
          clear hp hnn hlen
          refine wp_region_quiet_below (by kernel_rfl) (by kernel_rfl) ?_
          repeat (first | go_big_quiet_step (exact HU.out _) | quiet_step (exact HU.out _))
          refine wpQuiet_nil ?_
          intro w2 hw2
          have hw2 := Lib.hid (Nw.of_regrown hw2)
          clear hwr hg hfull hlk hln
          go_wp2
          go_ret
          exact ⟨by rw [r.out]; rfl, hw1.trans hw2.out⟩
      · rw [hp] at hlk
        have r : Hid (d.mayAppend n l = 0) := by show d.mayAppend n l = 0; unfold Dsk.mayAppend; rw [if_pos hok, if_neg (by rintro (h | ⟨h, -⟩); exact hfull h; exact h hnn)]
        clear hp hnn hlen
        refine wp_region_quiet_below (by kernel_rfl) (by kernel_rfl) ?_
        repeat (first | go_big_quiet_step (exact HU.out _) | quiet_step (exact HU.out _))
        refine wpQuiet_nil ?_
        intro w2 hw2
        have hw2 := Lib.hid (Nw.of_regrown hw2)
        clear hwr hg hfull hlk hln
        go_wp2
        go_ret
        exact ⟨by rw [r.out]; rfl, hw1.trans hw2.out⟩
end Go.Proofs.YtihagdadbeoeoaaDoor
