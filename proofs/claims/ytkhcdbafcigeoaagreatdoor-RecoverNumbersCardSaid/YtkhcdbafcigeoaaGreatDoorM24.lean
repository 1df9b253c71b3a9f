/-
  Texts merged by a program of this claim's: Ref02H.
-/
import Derived.Test.YtkhcdbafcigeoaaGreatDoorM21
import Derived.Test.YtkhcdbafcigeoaaGreatDoorM23
import Derived.Test.YtkhcdbafcigeoaaGreatDoorM10
import Derived.Deep.DeepCutAuto
namespace Go.Proofs.YtkhcdbafcigeoaaGreatDoor
open Go Go.RowKit Go.Sort
set_option maxRecDepth 100000
set_option maxHeartbeats 3200000
section
variable {X : Nat → Prop}

theorem rAppend_ok {w : World} {v u : Value} {r : Dsk} (hX : ∀ k, w.heap.size ≤ k → X k) (h : RefD X w v r) (hk : ROk r) (n : Str) (hml : n.length ≤ 9223372036854775807) (l : List UInt8) (hl : Bs w u l) (hll : l.length ≤ 16777216) :
    Calls Tryz.prog 56 #[v, .string ⟨n.toArray⟩, u] w fun e w' =>
    ∃ v', e = .returned (.tuple #[v', .int .i64 (r.rAppend n l).2]) ∧ RefD X w' v' (r.rAppend n l).1 ∧ Nw w w' := by
  have HX := Lib.hid hX
  clear hX
  have HR := Lib.hid h
  obtain ⟨sv, rfl, hFL⟩ := h
  obtain ⟨a, cap, rfl, h1, h2, hel⟩ := hFL.elem
  obtain ⟨ua, uc, rfl, -⟩ := hl.len
  have HLB := Lib.hid hl
  obtain ⟨most, L, left, down⟩ := r
  obtain ⟨few, used, most0, most1, arm0, arm1⟩ := hk
  simp only at h1 h2 HR few used most0 most1 arm0 arm1 hel
  have HFL := Lib.hid hFL
  have HE := Lib.hid hel
  simp only at HFL
  clear hFL hel hl
  unfold maxLen at h2
  cases down
  case true =>
    have r : Hid (Dsk.rAppend ⟨most, L, left, true⟩ n l = (⟨most, L, left, true⟩, 15)) := Lib.hid (by simp [Dsk.rAppend, Dsk.op])
    rw [r.out]
    go_enter Tryz.func56, Tryz.ntmps56
    go_wp2
    refine bodyPost_ret (v := .tuple #[.agg #[.int .i64 most, .slice a L.length cap, .int .i64 left, .bool true], .int .i64 15]) (by simp [results, Tryz.results56, go_sem]) rfl ?_
    have hN := ((Nw.refl w).alloc (DB (.int .i64 most) (.slice a L.length cap) (.int .i64 left) (.bool true))).alloc (DB (.int .i64 most) (.slice a L.length cap) (.int .i64 left) (.bool true))
    exact ⟨_, rfl, ⟨_, rfl, HFL.out.nw hN⟩, hN⟩
  case false =>
    have TB := two_boxes w #[.int .i64 most, .slice a L.length cap, .int .i64 left, .bool false] #[.int .i64 0, .slice none 0 0, .int .i64 0, .bool false] 43 43
    go_enter Tryz.func56, Tryz.ntmps56
    go_wp2_with fail
    generalize (w.alloc (.cells #[.int .i64 most, .slice a L.length cap, .int .i64 left, .bool false] 43)).alloc (.cells #[.int .i64 0, .slice none 0 0, .int .i64 0, .bool false] 43) = W0 at TB ⊢
    obtain ⟨t1, t2, t3, t4⟩ := TB
    have T1 := Lib.hid t1
    have T2 := Lib.hid t2
    have T3 := Lib.hid t3
    have T4 := Lib.hid t4
    clear t1 t2 t3 t4
    refine (rRight_ok n _ hml).mono ?_
    rintro e w9 ⟨rfl, rfl⟩
    cases hok : okName n
    case false =>
      have r : Hid (Dsk.rAppend ⟨most, L, left, false⟩ n l = (⟨most, L, left, false⟩, 13)) := Lib.hid (by simp [Dsk.rAppend, Dsk.op, Dsk.mayAppend, hok])
      obtain ⟨b0, b1, b2, b3, bf0, bf1, bf2, bf3⟩ := box_cells T2.out
      obtain ⟨r0, r1, r2, r3, rf0, rf1, rf2, rf3⟩ := box_cells T3.out
      have hs1 : w.heap.size + 1 < W0.heap.size := by have := T4.out; omega
      clear hok
      go_wp2
      refine bodyPost_ret (v := .tuple #[.agg #[.int .i64 most, .slice a L.length cap, .int .i64 left, .bool false], .int .i64 13]) (by simp [results, Tryz.results56, go_sem, r0, r1, r2, r3]) rfl ?_
      have hN := T1.out.trans' (only_set4q W0 (w.heap.size + 1) (.int .i64 most) (.slice a L.length cap) (.int .i64 left) (.bool false)) (fun k hk e => by omega)
      rw [r.out]
      exact ⟨_, rfl, ⟨_, rfl, HFL.out.nw hN⟩, hN⟩
    case true =>
    have HOK := Lib.hid hok
    clear hok
    obtain ⟨b0, b1, b2, b3, bf0, bf1, bf2, bf3⟩ := box_cells T2.out
    have hs0 : w.heap.size + 1 < W0.heap.size := by have := T4.out; omega
    go_wp2_with fail
    clear b0 b1 b2 b3 bf0 bf1 bf2 bf3
    refine (rFind_ok (HR.out.nw T1.out) n).mono ?_
    rintro e w1 ⟨rfl, n1⟩
    have N1 := Lib.hid (T1.out.trans n1)
    have B1 := Lib.hid (n1.at_ T2.out)
    have Q1 := Lib.hid (n1.at_ T3.out)
    have hs1 : w.heap.size + 1 < w1.heap.size := by have := n1.size; have := T4.out; omega
    obtain ⟨b0, b1, b2, b3, bf0, bf1, bf2, bf3⟩ := box_cells B1.out
    have d0 := cellG b0
    have d1 := cellG b1
    have d2 := cellG b2
    have d3 := cellG b3
    simp only
    clear n1
    have HU : Hid (∀ p : Regrown, Calls Tryz.prog 95 #[.agg #[.int .i64 most, .slice a L.length cap, .int .i64 left, .bool false]] (grow (redrawn w1 p.d) p.os) fun e w'' => e = .returned (.int .i64 (usedF L)) ∧ ∃ p' : Regrown, w'' = grow (redrawn w1 p'.d) p'.os) := Lib.hid (fun p => quiet_nw fun w2 hw2 => rUsed_ok ((HR.out.nw N1.out).nw hw2) (by show usedF L ≤ _; omega))
    obtain ⟨i, hi⟩ : ∃ i : Int, rfindI L n = i := ⟨_, rfl⟩
    have HI := Lib.hid hi
    rw [hi]
    clear hi
    have hwr : IntKind.i64.wrap ((usedF L : Int) + (l.length : Int)) = (usedF L : Int) + (l.length : Int) := IntWalk.i64_in _ (by omega)
    have hi0 : Hid ((i < 0) ↔ n ∉ namesF L) := Lib.hid (by
      rw [← HI.out]
      by_cases hn : n ∈ namesF L
      · obtain ⟨k, hk, hfi, -⟩ := rfind_mem hn
        rw [hfi]; simp [hn]
      · rw [rfind_no hn]; simp [hn])
    have hfull : ∃ full : Bool, Hid (full = true ↔ (most < ((usedF L + l.length : Nat) : Int) ∨ (n ∉ namesF L ∧ 200 ≤ L.length))) ∧ Hid (full = true ↔ (most < (usedF L : Int) + (l.length : Int) ∨ (i < 0 ∧ 200 ≤ L.length))) :=
      ⟨decide (most < ((usedF L + l.length : Nat) : Int) ∨ (n ∉ namesF L ∧ 200 ≤ L.length)), Lib.hid (by simp), Lib.hid (by rw [decide_eq_true_iff, hi0.out, Int.natCast_add])⟩
    obtain ⟨full, HF1, HF2⟩ := hfull
    go_upto_region 6 with fail
    go_cut [38] (fun s38 wx => s38 = .bool full ∧ Nw w1 wx)
    case first =>
      by_cases c1 : most < (usedF L : Int) + (l.length : Int)
      · have hg : decide (most < (usedF L : Int) + (l.length : Int)) = true := by simp; omega
        obtain rfl : full = true := HF2.out.2 (.inl c1)
        refine wp_region_quiet_below (by kernel_rfl) (by kernel_rfl) ?_
        repeat (first | go_big_quiet_step (exact HU.out _) | quiet_step (exact HU.out _))
        refine wpQuiet_nil ?_
        intro w2 hw2
        have hw2 := Lib.hid (Nw.of_regrown hw2)
        go_wp2_with fail
        go_meet
        case rel => exact ⟨rfl, hw2.out⟩
      · have hg : decide (most < (usedF L : Int) + (l.length : Int)) = false := by simp; omega
        by_cases c2 : i < 0
        · have hg2 : decide (i < 0) = true := by simpa using c2
          by_cases c3 : 200 ≤ L.length
          · have hg3 : decide ((200 : Int) ≤ (L.length : Int)) = true := by simp; omega
            have hg4 : decide (200 ≤ L.length) = true := by simp; omega
            obtain rfl : full = true := HF2.out.2 (.inr ⟨c2, c3⟩)
            refine wp_region_quiet_below (by kernel_rfl) (by kernel_rfl) ?_
            repeat (first | go_big_quiet_step (exact HU.out _) | quiet_step (exact HU.out _))
            refine wpQuiet_nil ?_
            intro w2 hw2
            have hw2 := Lib.hid (Nw.of_regrown hw2)
            go_wp2_with fail
            go_meet
            case rel => exact ⟨rfl, hw2.out⟩
          · have hg3 : decide ((200 : Int) ≤ (L.length : Int)) = false := by simp; omega
            have hg4 : decide (200 ≤ L.length) = false := by simp; omega
            obtain rfl : full = false := by
              cases full
              · rfl
              · exact absurd (HF2.out.1 rfl) (by omega)
            refine wp_region_quiet_below (by kernel_rfl) (by kernel_rfl) ?_
            repeat (first | go_big_quiet_step (exact HU.out _) | quiet_step (exact HU.out _))
            refine wpQuiet_nil ?_
            intro w2 hw2
            have hw2 := Lib.hid (Nw.of_regrown hw2)
            go_wp2_with fail
            go_meet
            case rel => exact ⟨rfl, hw2.out⟩
        · have hg2 : decide (i < 0) = false := by simp; omega
          obtain rfl : full = false := by
            cases full
            · rfl
            · exact absurd (HF2.out.1 rfl) (by omega)
          refine wp_region_quiet_below (by kernel_rfl) (by kernel_rfl) ?_
          repeat (first | go_big_quiet_step (exact HU.out _) | quiet_step (exact HU.out _))
          refine wpQuiet_nil ?_
          intro w2 hw2
          have hw2 := Lib.hid (Nw.of_regrown hw2)
          go_wp2_with fail
          go_meet
          case rel => exact ⟨rfl, hw2.out⟩
    case rest =>
      obtain ⟨rfl, n2⟩ := hcut
      have N2 := Lib.hid (N1.out.trans n2)
      have B2 := Lib.hid (n2.at_ B1.out)
      have Q2 := Lib.hid (n2.at_ Q1.out)
      have hs2 : w.heap.size + 1 < wc.heap.size := by have := n2.size; omega
      clear b0 b1 b2 b3 bf0 bf1 bf2 bf3 d0 d1 d2 d3 hwr n2
      obtain ⟨b0, b1, b2, b3, bf0, bf1, bf2, bf3⟩ := box_cells B2.out
      obtain ⟨r0, r1, r2, r3, rf0, rf1, rf2, rf3⟩ := box_cells Q2.out
      cases full
      case true =>
        have r : Hid (Dsk.rAppend ⟨most, L, left, false⟩ n l = (⟨most, L, left, false⟩, 5)) := Lib.hid (by
          have hc := HF1.out.1 rfl
          have hm : Dsk.mayAppend ⟨most, L, left, false⟩ n l = 5 := by unfold Dsk.mayAppend; rw [if_pos HOK.out, if_pos hc]
          simp [Dsk.rAppend, Dsk.op, hm])
        go_wp2
        refine bodyPost_ret (v := .tuple #[.agg #[.int .i64 most, .slice a L.length cap, .int .i64 left, .bool false], .int .i64 5]) (by simp [results, Tryz.results56, go_sem, r0, r1, r2, r3]) rfl ?_
        have hN := N2.out.trans' (only_set4q wc (w.heap.size + 1) (.int .i64 most) (.slice a L.length cap) (.int .i64 left) (.bool false)) (fun k hk e => by omega)
        rw [r.out]
        exact ⟨_, rfl, ⟨_, rfl, HFL.out.nw hN⟩, hN⟩
      case false =>
        have HM : Hid (Dsk.mayAppend ⟨most, L, left, false⟩ n l = 0) := Lib.hid (by
          have hc : ¬ (most < ((usedF L + l.length : Nat) : Int) ∨ (n ∉ namesF L ∧ 200 ≤ L.length)) := fun h => by have := HF1.out.2 h; cases this
          unfold Dsk.mayAppend; rw [if_pos HOK.out, if_neg hc])
        go_wp2_with fail
        refine (opn_ok _ most left a L.length cap false arm0 arm1).mono ?_
        rintro e w3 ⟨n3, he⟩
        have N3 := Lib.hid (N2.out.trans n3)
        have B3 := Lib.hid (n3.at_ B2.out)
        have Q3 := Lib.hid (n3.at_ Q2.out)
        have hs3 : w.heap.size + 1 < w3.heap.size := by have := n3.size; omega
        clear b0 b1 b2 b3 bf0 bf1 bf2 bf3 r0 r1 r2 r3 rf0 rf1 rf2 rf3 n3
        obtain ⟨b0, b1, b2, b3, bf0, bf1, bf2, bf3⟩ := box_cells B3.out
        obtain ⟨r0, r1, r2, r3, rf0, rf1, rf2, rf3⟩ := box_cells Q3.out
        by_cases hz : left = 0
        · have r : Hid (Dsk.rAppend ⟨most, L, left, false⟩ n l = (⟨most, L, -1, true⟩, 15)) := Lib.hid (by have hm := HM.out; rw [hz] at hm; simp [Dsk.rAppend, Dsk.op, hm, hz])
          rw [if_pos hz] at he
          subst he
          clear hz
          go_wp2
          refine bodyPost_ret (v := .tuple #[.agg #[.int .i64 most, .slice a L.length cap, .int .i64 (-1), .bool true], .int .i64 15]) (by simp [results, Tryz.results56, go_sem, r0, r1, r2, r3]) rfl ?_
          have hN := (N3.out.trans' (only_set4 w3 w.heap.size (.int .i64 most) (.slice a L.length cap) (.int .i64 (-1)) (.bool true)) (fun k hk e => by omega)).trans' (only_set4q _ (w.heap.size + 1) (.int .i64 most) (.slice a L.length cap) (.int .i64 (-1)) (.bool true)) (fun k hk e => by omega)
          rw [r.out]
          exact ⟨_, rfl, ⟨_, rfl, HFL.out.nw hN⟩, hN⟩
        · rw [if_neg hz] at he
          subst he
          have HZ := Lib.hid hz
          clear hz
          go_upto_region 11 with fail
          generalize hW3 : (((w3.setCell ⟨w.heap.size, 0, none⟩ (.int .i64 most)).setCell ⟨w.heap.size, 1, none⟩ (.slice a L.length cap)).setCell ⟨w.heap.size, 2, none⟩ (.int .i64 (max (left - 1) (-1)))).setCell ⟨w.heap.size, 3, none⟩ (.bool false) = W3
          have HO3 : Hid (Only (fun k => k = w.heap.size) w3 W3) := Lib.hid (hW3 ▸ only_set4 w3 w.heap.size _ _ _ _)
          have BW : Hid (W3.heap[w.heap.size]? = some (DB (.int .i64 most) (.slice a L.length cap) (.int .i64 (max (left - 1) (-1))) (.bool false))) := Lib.hid (hW3 ▸ heap_set4 B3.out _ _ _ _)
          have QW := Lib.hid (HO3.out.at_ Q3.out (by omega))
          have NW3 := Lib.hid (N3.out.trans' HO3.out (fun k hk e => by omega))
          have hsW : w.heap.size + 1 < W3.heap.size := by have := HO3.out.size; omega
          clear hW3 b0 b1 b2 b3 bf0 bf1 bf2 bf3 r0 r1 r2 r3 rf0 rf1 rf2 rf3
          obtain ⟨pf, hpf⟩ : ∃ pf, pf = W3.heap.size := ⟨_, rfl⟩
          go_upto_if 51 with fail
          have F4 := Lib.hid (heap_alloc_new W3 (.cells #[.string ⟨n.toArray⟩, .slice none 0 0, .int .i64 0] 143))
          have NA : Hid (Nw W3 (W3.alloc (.cells #[.string ⟨n.toArray⟩, .slice none 0 0, .int .i64 0] 143))) := Lib.hid ((Nw.refl W3).alloc _)
          rw [← hpf] at F4
          simp only [← hpf]
          generalize W3.alloc (.cells #[.string ⟨n.toArray⟩, .slice none 0 0, .int .i64 0] 143) = W4 at F4 NA ⊢
          have N4 := Lib.hid (NW3.out.trans NA.out)
          have B4 := Lib.hid (NA.out.at_ BW.out)
          have Q4 := Lib.hid (NA.out.at_ QW.out)
          have hpf4 : pf < W4.heap.size := lt_of_block F4.out
          have hpf3 : w.heap.size + 1 < pf := by omega
          clear hpf
          go_cut [] (fun wx => ∃ (xa : Option Addr) (xc : Nat), Only (fun k => k = pf) W4 wx ∧ wx.heap[pf]? = some (.cells #[.string ⟨n.toArray⟩, .slice xa (fileOf L n).bytes.length xc, .int .i64 (fileOf L n).synced] 143 (0, 0)) ∧ Bs w (.slice xa (fileOf L n).bytes.length xc) (fileOf L n).bytes)
          case first =>
            by_cases hn : n ∈ namesF L
            · obtain ⟨k, hk, hfi, hkn, hfo⟩ := rfind_mem hn
              obtain ⟨g, o, b, rfl, e0, e1, e2, hb⟩ := HE.out k hk
              obtain ⟨xa, xc, rfl, hxl, -⟩ := hb.1.elems
              obtain rfl : i = (k : Int) := HI.out.symm.trans hfi
              have c0 := N4.out.cell e0
              have c1 := N4.out.cell e1
              have c2 := N4.out.cell e2
              rw [hkn] at c0
              have HBX := Lib.hid hb.1
              have HFO := Lib.hid hfo
              clear hb e0 e1 e2 hkn hfo hxl hfi hn
              generalize L[k] = x at *
              obtain ⟨x1, x2, x3⟩ := x
              simp only at c1 c2 HFO HBX
              obtain ⟨f0, f1, f2, ff0, ff1, ff2⟩ := box_cells3 F4.out
              obtain ⟨b0, b1, b2, b3, bf0, bf1, bf2, bf3⟩ := box_cells B4.out
              have hks : (k : Int) < (L.length : Int) := by omega
              have hpg : g < w.heap.size := World.block_lt_of_cell? w _ (by
                obtain ⟨g', o', b', he, e0, -⟩ := HE.out k hk
                cases he; exact e0)
              have hne : ¬ pf = g := by omega
              have hne2 : ¬ g = pf := by omega
              go_wp2_with fail
              have hO : Only (fun k => k = pf) W4 (((W4.setCell ⟨pf, 0, none⟩ (.string ⟨n.toArray⟩)).setCell ⟨pf, 1, none⟩ (.slice xa x2.length xc)).setCell ⟨pf, 2, none⟩ (.int .i64 x3)) := by
                refine Only.setCell (S := fun k => k = pf) (p := ⟨pf, 2, none⟩) ?_ (fun _ => rfl) _
                refine Only.setCell (S := fun k => k = pf) (p := ⟨pf, 1, none⟩) ?_ (fun _ => rfl) _
                exact Only.setCell (S := fun k => k = pf) (p := ⟨pf, 0, none⟩) (Only.refl W4) (fun _ => rfl) _
              have hH : (((W4.setCell ⟨pf, 0, none⟩ (.string ⟨n.toArray⟩)).setCell ⟨pf, 1, none⟩ (.slice xa x2.length xc)).setCell ⟨pf, 2, none⟩ (.int .i64 x3)).heap[pf]? = some (.cells #[.string ⟨n.toArray⟩, .slice xa x2.length xc, .int .i64 x3] 143 (0, 0)) := by
                have := heap_setCell_at (heap_setCell_at (heap_setCell_at F4.out 0 (.string ⟨n.toArray⟩)) 1 (.slice xa x2.length xc)) 2 (.int .i64 x3)
                simpa using this
              go_meet
              case rel => exact ⟨xa, xc, hO, by rw [HFO.out]; exact hH, by rw [HFO.out]; exact HBX.out⟩
            · have hfo : fileOf L n = ⟨[], 0⟩ := by simp [fileOf, (getF_none _ _).2 hn]
              obtain rfl : i = -1 := HI.out.symm.trans (rfind_no hn)
              have HFO := Lib.hid hfo
              clear hn hfo
              go_wp2_with fail
              go_meet
              case rel => exact ⟨none, 0, Only.refl _, by rw [HFO.out]; exact F4.out, by rw [HFO.out]; exact .inl ⟨_, rfl, rfl⟩⟩
          case rest =>
            obtain ⟨xa, xc, hO5, hF5, hB5⟩ := hcut
            have F5 := Lib.hid hF5
            have BX := Lib.hid hB5
            have N5 := Lib.hid (N4.out.trans' hO5 (fun k hk e => by omega))
            have B5 := Lib.hid (hO5.at_ B4.out (by omega))
            have Q5 := Lib.hid (hO5.at_ Q4.out (by omega))
            have hpf5 : pf < wc.heap.size := lt_of_block hF5
            have hul := rfile_le L n
            obtain ⟨J, hJ⟩ : ∃ J, J = (fileOf L n).bytes ++ l := ⟨_, rfl⟩
            have JO := joined_ok (BX.out.nw N5.out) (HLB.out.nw N5.out) (by omega)
            rw [← hJ] at JO
            have HJ := Lib.hid hJ
            have hjl : J.length ≤ 33554432 := by rw [hJ, List.length_append]; omega
            have JO := Lib.hid JO
            clear hO5 hF5 hB5 hJ hul
            obtain ⟨f0, f1, f2, ff0, ff1, ff2⟩ := box_cells3 F5.out
            generalize hfs : fileOf L n = fn at *
            have HFS := Lib.hid hfs
            clear hfs
            go_wp2_with fail
            refine JO.out.mono ?_
            rintro e w6 ⟨v6, rfl, hv6, n6, hnew6⟩
            have V6 := Lib.hid hv6
            have NEW6 := Lib.hid hnew6
            have N6 := Lib.hid n6
            obtain ⟨a6, c6, rfl, -⟩ := hv6.len
            clear f0 f1 f2 ff0 ff1 ff2 hv6 n6 hnew6
            obtain ⟨f0, f1, f2, ff0, ff1, ff2⟩ := box_cells3 (N6.out.at_ F5.out)
            go_upto_region 15 with fail
            generalize hW7 : w6.setCell ⟨pf, 1, none⟩ (.slice a6 J.length c6) = W7
            have HO7 : Hid (Only (fun k => k = pf) w6 W7) := Lib.hid (by
              rw [← hW7]
              exact Only.setCell (S := fun k => k = pf) (p := ⟨pf, 1, none⟩) (Only.refl w6) (fun _ => rfl) _)
            have F7 : Hid (W7.heap[pf]? = some (.cells #[.string ⟨n.toArray⟩, .slice a6 J.length c6, .int .i64 fn.synced] 143 (0, 0))) := Lib.hid (by
              rw [← hW7]
              have := heap_setCell_at (N6.out.at_ F5.out) 1 (.slice a6 J.length c6)
              simpa using this)
            have NB : Hid (Nw w W7) := Lib.hid ((N5.out.trans N6.out).trans' HO7.out (fun k hk e => by omega))
            have QB : Hid (W7.heap[w.heap.size + 1]? = _) := Lib.hid (HO7.out.at_ (N6.out.at_ Q5.out) (by omega))
            have PB : Hid (W7.heap[w.heap.size]? = _) := Lib.hid (HO7.out.at_ (N6.out.at_ B5.out) (by omega))
            have BB : Hid (BsX X W7 (.slice a6 J.length c6) J) := Lib.hid (by
              refine ⟨?_, fun _ g hg => HX.out g (by have := NEW6.out g hg; have := N5.out.size; omega)⟩
              have h1 := V6.out.keep HO7.out.size (fun g hg => HO7.out.block g (V6.out.lt g hg) (fun e => by have := NEW6.out g hg; omega))
              exact Vec.rd (f := u8) h1)
            have hs7 : w.heap.size + 1 < W7.heap.size := by have := HO7.out.size; have := N6.out.size; omega
            have hpf7 : pf < W7.heap.size := lt_of_block F7.out
            clear hW7 f0 f1 f2 ff0 ff1 ff2
            have RX : RefD X W7 (.agg #[.int .i64 most, .slice a L.length cap, .int .i64 (max (left - 1) (-1)), .bool false]) ⟨most, L, max (left - 1) (-1), false⟩ := ⟨_, rfl, HFL.out.nw NB.out⟩
            have RW := Lib.hid (rwith_ok RX.b (Nw.refl W7) n ⟨J, fn.synced⟩ a6 c6 BB.out (by show L.length ≤ 100000; omega))
            clear RX
            obtain ⟨b0, b1, b2, b3, bf0, bf1, bf2, bf3⟩ := box_cells PB.out
            obtain ⟨f0, f1, f2, ff0, ff1, ff2⟩ := box_cells3 F7.out
            go_wp2_with fail
            refine RW.out.mono ?_
            rintro e w8 ⟨v8, rfl, hr8, n8⟩
            obtain ⟨sv8, cs8, rfl, hsv8, hfc8, hnw8⟩ := hr8
            obtain ⟨a8, c8, rfl, -⟩ := hsv8.len
            generalize hM : rwith L (n, ⟨J, fn.synced⟩) = M at *
            have RR : Hid (FL X w8 (.slice a8 M.length c8) M) := Lib.hid ⟨cs8, hsv8, hfc8.nw n8, fun _ g hg => HX.out g (by have := hnw8 g hg; have := NB.out.size; omega)⟩
            have HMM := Lib.hid hM
            have N8 := Lib.hid (NB.out.trans n8)
            have Q8 := Lib.hid (n8.at_ QB.out)
            have hs8 : w.heap.size + 1 < w8.heap.size := by have := n8.size; omega
            clear b0 b1 b2 b3 bf0 bf1 bf2 bf3 f0 f1 f2 ff0 ff1 ff2 hsv8 hfc8 n8 hM
            obtain ⟨r0, r1, r2, r3, rf0, rf1, rf2, rf3⟩ := box_cells Q8.out
            have r : Hid (Dsk.rAppend ⟨most, L, left, false⟩ n l = (⟨most, M, max (left - 1) (-1), false⟩, 0)) := Lib.hid (by rw [← HMM.out, HJ.out, ← HFS.out]; simp [Dsk.rAppend, Dsk.op, HM.out, HZ.out])
            simp only
            go_wp2
            refine bodyPost_ret (v := .tuple #[.agg #[.int .i64 most, .slice a8 M.length c8, .int .i64 (max (left - 1) (-1)), .bool false], .int .i64 0]) (by simp [results, Tryz.results56, go_sem, r0, r1, r2, r3]) rfl ?_
            have hN := N8.out.trans' (only_set4q w8 (w.heap.size + 1) (.int .i64 most) (.slice a8 M.length c8) (.int .i64 (max (left - 1) (-1))) (.bool false)) (fun k hk e => by omega)
            rw [r.out]
            exact ⟨_, rfl, ⟨_, rfl, RR.out.box Q8.out (only_set4q w8 (w.heap.size + 1) (.int .i64 most) (.slice a8 M.length c8) (.int .i64 (max (left - 1) (-1))) (.bool false))⟩, hN⟩
end
end Go.Proofs.YtkhcdbafcigeoaaGreatDoor
