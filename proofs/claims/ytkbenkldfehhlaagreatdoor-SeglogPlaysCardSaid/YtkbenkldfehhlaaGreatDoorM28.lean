/-
  Texts merged by a program of this claim's: DocX, DocY, SwapA.
-/
import Derived.Test.YtkbenkldfehhlaaGreatDoorM27
import Derived.Test.YtkbenkldfehhlaaGreatDoorM23
import Derived.Test.YtkbenkldfehhlaaGreatDoorM21
import Derived.Test.YtkbenkldfehhlaaGreatDoorLogIS
namespace Go.Proofs.YtkbenkldfehhlaaGreatDoor
open Go Go.RowKit Go.Sort
set_option maxRecDepth 100000
set_option maxHeartbeats 3200000
section
variable {X Y : Nat → Prop} {d0 d' : Dsk} {v lv : Value} {w wk w' : World} {L0 L' : Lg}
theorem dAppend_ok (h : RD X w v d0) (hl : LogV X w lv L0) (hne : L0.l ≠ []) (hX : ∀ k, w.heap.size ≤ k → X k) (hpo : PutOk L0) (hf : 0 ≤ (lastP L0.l).first) (hlen : L0.l.length ≤ 100) {ev : Value} {es : List Ev} (hv : Evs w ev es) :
    Calls Tryz.prog 29 #[lv, v, ev] w (RDL X w (L0.add d0 es).d (L0.add d0 es).L (L0.add d0 es).e) := by
  obtain ⟨ea, ec, rfl, -, -⟩ := hv.elem
  have HV := Lib.hid hv
  have HPO := Lib.hid hpo
  have HF := Lib.hid hf
  have HLEN := Lib.hid hlen
  have HNE := Lib.hid hne
  clear hv hpo hf hlen
  obtain ⟨m0, a0, n0, c0, la0, dn0, rfl⟩ := h.parts
  obtain ⟨pa0, pc0, rfl, hp, ho⟩ := hl
  have S0 := Lib.hid (Sl.new hne h hp ho)
  have HX := Lib.hid hX
  clear h hX hp ho
  obtain ⟨R, hR⟩ : ∃ r, L0.add d0 es = r := ⟨_, rfl⟩
  have HR := Lib.hid hR
  rw [hR]
  clear hR
  obtain ⟨w0, hw0⟩ : ∃ x, (((w.alloc (logB L0 pa0 pc0)).alloc (DB (.int .i64 m0) (.slice a0 n0 c0) (.int .i64 la0) (.bool dn0))).alloc (DB (.int .i64 0) (.slice none 0 0) (.int .i64 0) (.bool false))).alloc (LB (.int .i64 0) (.slice none 0 0) (.int .i64 0) (.int .i64 0) (.int .i64 0) (.bool false)) = x := ⟨_, rfl⟩
  have hkk := (four_boxes w (logB L0 pa0 pc0) (DB (.int .i64 m0) (.slice a0 n0 c0) (.int .i64 la0) (.bool dn0)) (DB (.int .i64 0) (.slice none 0 0) (.int .i64 0) (.bool false)) (LB (.int .i64 0) (.slice none 0 0) (.int .i64 0) (.int .i64 0) (.int .i64 0) (.bool false))).2.2.2.2.2
  rw [hw0] at S0 hkk
  unfold logB LB DB at hw0
  go_enter Tryz.func29, Tryz.ntmps29
  go_upto_region 1 with fail
  clear hw0
  generalize w.heap.size + 4 = K at S0 hkk
  have HK0 := Lib.hid hkk
  clear hkk
  generalize w.heap.size + 1 + 1 + 1 = rl at S0 ⊢
  generalize w.heap.size + 1 + 1 = rd at S0 ⊢
  generalize w.heap.size + 1 = pd at S0 ⊢
  generalize w.heap.size = pl at S0 ⊢
  clear hne
  cases hov : L0.over
  case true =>
    obtain ⟨⟨q0, q1, q2, q3, q4, q5⟩, h0, h1, h2, h3, h4, h5⟩ := lb_cells S0.out.bl
    obtain ⟨b0, b1, b2, b3, k0, k1, k2, k3⟩ := box_cells S0.out.bd
    rw [hov] at q5
    have HOV := Lib.hid hov
    clear hov
    go_upto_region 2 with fail
    clear q0 q1 q2 q3 q4 q5 h0 h1 h2 h3 h4 h5 b0 b1 b2 b3 k0 k1 k2 k3
    have HE : Hid (R = ⟨d0, L0, 16⟩) := Lib.hid (by rw [← HR.out]; unfold Lg.add; rw [HOV.out]; rfl)
    obtain ⟨⟨q0, q1, q2, q3, q4, q5⟩, -⟩ := lb_cells S0.out.bl
    obtain ⟨b0, b1, b2, b3, -⟩ := box_cells S0.out.bd
    obtain ⟨u0, u1, u2, u3, hr⟩ := S0.out.brd
    obtain ⟨v0, v1, v2, v3, v4, v5, hq⟩ := S0.out.brl
    obtain ⟨r0, r1, r2, r3, f0, f1, f2, f3⟩ := box_cells hr
    obtain ⟨⟨s0, s1, s2, s3, s4, s5⟩, g0, g1, g2, g3, g4, g5⟩ := lb_cells hq
    obtain ⟨e1, e2, e3, e4, e5, e6⟩ := S0.out.ne
    clear hr hq
    go_region_with fail
    all_goals
      go_wp2
      obtain ⟨w9, hw9, D9, V9, N9, BD9, BL9⟩ := S0.out.fin HX.out
      rw [hw9]
      have ND := (Nw.refl w9).drew
      obtain ⟨e0, e1, e2, e3, -⟩ := box_cells BD9
      obtain ⟨⟨j0, j1, j2, j3, j4, j5⟩, -⟩ := lb_cells BL9
      obtain ⟨k0, k1, k2, k3, -⟩ := box_cells (ND.at_ BD9)
      obtain ⟨⟨i0, i1, i2, i3, i4, i5⟩, -⟩ := lb_cells (ND.at_ BL9)
      refine bodyPost_ret (v := .tuple #[.agg #[.int .i64 m0, .slice a0 n0 c0, .int .i64 la0, .bool dn0], .agg #[.int .i64 L0.size, .slice pa0 L0.l.length pc0, .int .i64 L0.n, .int .i64 L0.acked, .int .i64 L0.bytes, .bool L0.over], .int .i64 16]) (by simp [results, Tryz.results29, go_sem, e0, e1, e2, e3, j0, j1, j2, j3, j4, j5, k0, k1, k2, k3, i0, i1, i2, i3, i4, i5]) rfl ?_
      rw [HE.out]
      first
        | exact ⟨m0, a0, n0, c0, la0, dn0, pa0, pc0, rfl, D9, V9, N9⟩
        | exact ⟨m0, a0, n0, c0, la0, dn0, pa0, pc0, rfl, D9.nw ND, V9.nw ND, N9.trans ND⟩
  have HOV := Lib.hid hov
  by_cases hbad : es.length = 0 ∨ 4096 < es.length
  case pos =>
    obtain ⟨x, hx, hx0⟩ : ∃ x : Int, ((es.length = 0 ∧ x = 2) ∨ (4096 < es.length ∧ x = 3)) ∧ x ≠ 0 := by
      rcases hbad with h | h
      · exact ⟨2, .inl ⟨h, rfl⟩, by decide⟩
      · exact ⟨3, .inr ⟨h, rfl⟩, by decide⟩
    have E : Hid (L0.add d0 es = ⟨d0, L0, x⟩) := Lib.hid (by
      unfold Lg.add
      rcases hx with ⟨h0, rfl⟩ | ⟨h0, rfl⟩
      · rw [if_neg (by simp [hov]), if_pos h0]
      · rw [if_neg (by simp [hov]), if_neg (by omega), if_pos h0])
    have FN := Lib.hid (fun W (hW : Nw w W) => dFrame_no (HV.out.nw hW) x hx)
    have hxb : (x != 0) = true := by simpa using hx0
    clear hx hx0 hbad
    obtain ⟨⟨q0, q1, q2, q3, q4, q5⟩, h0, h1, h2, h3, h4, h5⟩ := lb_cells S0.out.bl
    obtain ⟨b0, b1, b2, b3, k0, k1, k2, k3⟩ := box_cells S0.out.bd
    rw [hov] at q5
    clear hov
    go_upto_region 3 with fail
    go_wp2_with fail
    refine (FN.out _ S0.out.nw).mono ?_
    rintro e w1 ⟨rfl, rfl⟩
    go_upto_region 5 with fail
    clear q0 q1 q2 q3 q4 q5 h0 h1 h2 h3 h4 h5 b0 b1 b2 b3 k0 k1 k2 k3
    have HE : Hid (R = ⟨d0, L0, x⟩) := Lib.hid (by rw [← HR.out, E.out])
    obtain ⟨⟨q0, q1, q2, q3, q4, q5⟩, -⟩ := lb_cells S0.out.bl
    obtain ⟨b0, b1, b2, b3, -⟩ := box_cells S0.out.bd
    obtain ⟨u0, u1, u2, u3, hr⟩ := S0.out.brd
    obtain ⟨v0, v1, v2, v3, v4, v5, hq⟩ := S0.out.brl
    obtain ⟨r0, r1, r2, r3, f0, f1, f2, f3⟩ := box_cells hr
    obtain ⟨⟨s0, s1, s2, s3, s4, s5⟩, g0, g1, g2, g3, g4, g5⟩ := lb_cells hq
    obtain ⟨e1, e2, e3, e4, e5, e6⟩ := S0.out.ne
    clear hr hq
    go_region_with fail
    all_goals
      go_wp2
      obtain ⟨w9, hw9, D9, V9, N9, BD9, BL9⟩ := S0.out.fin HX.out
      rw [hw9]
      have ND := (Nw.refl w9).drew
      obtain ⟨e0, e1, e2, e3, -⟩ := box_cells BD9
      obtain ⟨⟨j0, j1, j2, j3, j4, j5⟩, -⟩ := lb_cells BL9
      obtain ⟨k0, k1, k2, k3, -⟩ := box_cells (ND.at_ BD9)
      obtain ⟨⟨i0, i1, i2, i3, i4, i5⟩, -⟩ := lb_cells (ND.at_ BL9)
      refine bodyPost_ret (v := .tuple #[.agg #[.int .i64 m0, .slice a0 n0 c0, .int .i64 la0, .bool dn0], .agg #[.int .i64 L0.size, .slice pa0 L0.l.length pc0, .int .i64 L0.n, .int .i64 L0.acked, .int .i64 L0.bytes, .bool L0.over], .int .i64 x]) (by simp [results, Tryz.results29, go_sem, e0, e1, e2, e3, j0, j1, j2, j3, j4, j5, k0, k1, k2, k3, i0, i1, i2, i3, i4, i5]) rfl ?_
      rw [HE.out]
      first
        | exact ⟨m0, a0, n0, c0, la0, dn0, pa0, pc0, rfl, D9, V9, N9⟩
        | exact ⟨m0, a0, n0, c0, la0, dn0, pa0, pc0, rfl, D9.nw ND, V9.nw ND, N9.trans ND⟩
  have hes1 : es.length ≠ 0 := fun h => hbad (.inl h)
  have hes2 : es.length ≤ 4096 := by omega
  have EA : Hid (L0.add d0 es = if (L0.roomed d0).e ≠ 0 then ⟨(L0.roomed d0).d, { (L0.roomed d0).L with over := true }, (L0.roomed d0).e⟩ else (L0.roomed d0).L.put (L0.roomed d0).d es) := Lib.hid (by
    unfold Lg.add; rw [if_neg (by simp [hov]), if_neg hes1, if_neg (by omega)])
  have FR := Lib.hid (fun W (hW : Nw w W) => dFrame_ok (HV.out.nw hW) hes1 hes2)
  have HLN := Lib.hid (frameB_len sumB_len es hes2)
  obtain ⟨fb, hfb⟩ : ∃ fb, frmB es = fb := ⟨_, rfl⟩
  have EF := Lib.hid hfb
  rw [hfb] at FR
  rw [show frameB sumB es = fb from hfb] at HLN
  obtain ⟨ne, hnn⟩ : ∃ k, es.length = k := ⟨_, rfl⟩
  rw [hnn] at hes2 HLN FR ⊢
  have HNN := Lib.hid hnn
  have HNB : Hid (ne ≤ 4096) := Lib.hid hes2
  obtain ⟨d1, L1, x1, hrm⟩ : ∃ d1 L1 x1, L0.roomed d0 = ⟨d1, L1, x1⟩ := ⟨_, _, _, rfl⟩
  have HRF := Lib.hid (roomed_facts (d := d0) HPO.out HNE.out)
  rw [hrm] at HRF
  have HRM := Lib.hid hrm
  obtain ⟨⟨q0, q1, q2, q3, q4, q5⟩, h0, h1, h2, h3, h4, h5⟩ := lb_cells S0.out.bl
  obtain ⟨b0, b1, b2, b3, k0, k1, k2, k3⟩ := box_cells S0.out.bd
  rw [hov] at q5
  clear hov hbad hes1 hes2 hfb hnn hrm
  go_upto_region 3 with fail
  go_wp2_with fail
  refine (FR.out _ S0.out.nw).mono ?_
  rintro e w1 ⟨vf, rfl, f1, f2, f3⟩
  obtain ⟨fa, fc, rfl, -⟩ := f1.len
  have BV : Hid (OV 1 K w1 (.slice fa fb.length fc) fb.length (fb.map u8)) := Lib.hid ⟨f1, fun g hg => Nat.le_trans S0.out.kk (f3 g hg)⟩
  have T0 := Lib.hid (S0.out.on f2)
  clear f1 f2 f3 FR
  clear q0 q1 q2 q3 q4 q5 h0 h1 h2 h3 h4 h5 b0 b1 b2 b3 k0 k1 k2 k3
  go_upto_region 6 with fail
  obtain ⟨g, o, hpa, hg, ⟨hl0, hl1, hl2⟩, -, l1, -, -, -, hin⟩ := pcs_lastAt T0.out.pcs HNE.out
  obtain ⟨fi, hfi⟩ : ∃ y, (lastP L0.l).first = y := ⟨_, rfl⟩
  have HFI := Lib.hid hfi
  rw [hfi] at l1
  clear hfi hin
  obtain ⟨⟨q0, q1, q2, q3, q4, q5⟩, h0, h1, h2, h3, h4, h5⟩ := lb_cells T0.out.bl
  obtain ⟨b0, b1, b2, b3, k0, k1, k2, k3⟩ := box_cells T0.out.bd
  subst hpa
  clear h0 h1 h2 h3 h4 h5 b0 b1 b2 b3 k0 k1 k2 k3
  have g0 := cellG q0
  have g1 := cellG q1
  have g2 := cellG q2
  have g4 := cellG q4
  have gl := cellG l1
  have hj : IntKind.i64.wrap ((L0.l.length : Int) - 1) = ((L0.l.length - 1 : Nat) : Int) := by rw [show ((L0.l.length : Int) - 1) = ((L0.l.length - 1 : Nat) : Int) by omega]; exact IntWalk.i64_in _ (by omega)
  have hjj : (L0.l.length : Int) - 1 = ((L0.l.length - 1 : Nat) : Int) := by omega
  have hk0 : (0 : Int) ≤ ((L0.l.length - 1 : Nat) : Int) := by omega
  have hk1 : ((L0.l.length - 1 : Nat) : Int) < (L0.l.length : Int) := by omega
  go_cut [43] (fun t wx => Nw w1 wx ∧ t = .bool (decide (fi < (L0.n : Int) ∧ L0.size ≤ (L0.bytes : Int))))
  case first =>
    by_cases hr1 : fi < (L0.n : Int)
    · by_cases hr2 : L0.size ≤ (L0.bytes : Int)
      · have y1 : decide (fi < (L0.n : Int)) = true := by simpa using hr1
        have y2 : decide (L0.size ≤ (L0.bytes : Int)) = true := by simpa using hr2
        have y3 : decide (fi < (L0.n : Int) ∧ L0.size ≤ (L0.bytes : Int)) = true := by simp [hr1, hr2]
        clear hr1 hr2
        refine wp_region_quiet_below (by kernel_rfl) (by kernel_rfl) ?_
        repeat (first | go_big_quiet_step (fail) | quiet_step (fail))
        refine wpQuiet_nil ?_
        intro w6 hw6
        have N6 := Nw.of_regrown hw6
        go_wp2
        go_meet
        case rel => exact ⟨N6, by rw [y3]⟩
      · have y1 : decide (fi < (L0.n : Int)) = true := by simpa using hr1
        have y2 : decide (L0.size ≤ (L0.bytes : Int)) = false := by simpa using hr2
        have y3 : decide (fi < (L0.n : Int) ∧ L0.size ≤ (L0.bytes : Int)) = false := by simp [hr2]
        clear hr1 hr2
        refine wp_region_quiet_below (by kernel_rfl) (by kernel_rfl) ?_
        repeat (first | go_big_quiet_step (fail) | quiet_step (fail))
        refine wpQuiet_nil ?_
        intro w6 hw6
        have N6 := Nw.of_regrown hw6
        go_wp2
        go_meet
        case rel => exact ⟨N6, by rw [y3]⟩
    · have y1 : decide (fi < (L0.n : Int)) = false := by simpa using hr1
      have y3 : decide (fi < (L0.n : Int) ∧ L0.size ≤ (L0.bytes : Int)) = false := by simp [hr1]
      clear hr1
      refine wp_region_quiet_below (by kernel_rfl) (by kernel_rfl) ?_
      repeat (first | go_big_quiet_step (fail) | quiet_step (fail))
      refine wpQuiet_nil ?_
      intro w6 hw6
      have N6 := Nw.of_regrown hw6
      go_wp2
      go_meet
      case rel => exact ⟨N6, by rw [y3]⟩
  case rest =>
    obtain ⟨n6, rfl⟩ := hcut
    have T1 := Lib.hid (T0.out.on n6)
    have BV1 := Lib.hid (BV.out.nw n6)
    clear n6 q0 q1 q2 q3 q4 q5 g0 g1 g2 g4 gl l1 hj hjj hk0 hk1 hl0 hl1 hl2 T0 BV
    go_upto_if 43 with fail
    go_cut [10] (fun t wx => ∃ (m1 : Int) (a1 : Option Addr) (n1 c1 : Nat) (la1 : Int) (dn1 : Bool) (pa1 : Option Addr) (pc1 : Nat), t = .int .i64 x1 ∧ Sl X w wx pl pd rd rl K d1 m1 a1 n1 c1 la1 dn1 L1 pa1 pc1 ∧ OV 1 K wx (.slice fa fb.length fc) fb.length (fb.map u8))
    case first =>
      by_cases hr : fi < (L0.n : Int) ∧ L0.size ≤ (L0.bytes : Int)
      case neg =>
        have y3 : decide (fi < (L0.n : Int) ∧ L0.size ≤ (L0.bytes : Int)) = false := by simpa using hr
        have E : L0.roomed d0 = ⟨d0, L0, 0⟩ := by unfold Lg.roomed; rw [HFI.out, if_neg hr]
        rw [HRM.out] at E
        injection E with E1 E2 E3
        subst E1 E2 E3
        clear hr
        rw [y3]
        go_wp2
        go_meet
        case rel => exact ⟨_, _, _, _, _, _, _, _, rfl, T1.out, BV1.out⟩
      case pos =>
        have y3 : decide (fi < (L0.n : Int) ∧ L0.size ≤ (L0.bytes : Int)) = true := by simpa using hr
        have E : L0.roomed d0 = L0.another d0 := by unfold Lg.roomed; rw [HFI.out, if_pos hr]
        rw [HRM.out] at E
        clear hr
        have AN := dAnother_ok T1.out.rdk (lv := .agg #[.int .i64 L0.size, .slice (some ⟨g, o, none⟩) L0.l.length pc0, .int .i64 L0.n, .int .i64 L0.acked, .int .i64 L0.bytes, .bool L0.over]) ⟨_, _, rfl, T1.out.pcs, T1.out.own⟩ HNE.out T1.out.fresh HPO.out.1 HF.out HLEN.out
        rw [← E] at AN
        have AN := Lib.hid AN
        clear E
        rw [y3]
        obtain ⟨⟨q0, q1, q2, q3, q4, q5⟩, h0, h1, h2, h3, h4, h5⟩ := lb_cells T1.out.bl
        obtain ⟨b0, b1, b2, b3, k0, k1, k2, k3⟩ := box_cells T1.out.bd
        go_upto_region 7 with fail
        go_wp2_with fail
        refine AN.out.mono ?_
        rintro e y ⟨m1, a1, n1, c1, la1, dn1, pa1, pc1, rfl, dd, lg, nn⟩
        clear q0 q1 q2 q3 q4 q5 h0 h1 h2 h3 h4 h5 b0 b1 b2 b3 k0 k1 k2 k3
        have TY := Lib.hid (T1.out.on nn)
        obtain ⟨⟨q0, q1, q2, q3, q4, q5⟩, h0, h1, h2, h3, h4, h5⟩ := lb_cells TY.out.bl
        obtain ⟨b0, b1, b2, b3, k0, k1, k2, k3⟩ := box_cells TY.out.bd
        obtain ⟨lp, lo⟩ := lg.at_
        obtain ⟨z1, -⟩ := T1.out.ne
        have z2 : ¬ pd = pl := fun h => z1 h.symm
        have z3 : ¬ pl = pd := z1
        go_wp2
        go_meet
        case rel =>
          obtain ⟨w9, hw9, s9, o9⟩ := T1.out.both dd lp lo nn
          have hhi := T1.out.hi
          exact ⟨_, _, _, _, _, _, _, _, rfl, by rw [hw9]; exact s9, by rw [hw9]; exact (BV1.out.nw nn).put o9 (fun k hk => by omega)⟩
    case rest =>
      obtain ⟨m1, a1, n1, c1, la1, dn1, pa1, pc1, rfl, s1, bv2⟩ := hcut
      have S1 := Lib.hid s1
      have BV2 := Lib.hid bv2
      clear s1 bv2 T1 BV1
      obtain ⟨d2, x2, hap⟩ : ∃ d2 x2, d1.append (lastP L1.l).name fb = (d2, x2) := ⟨_, _, rfl⟩
      have HAP := Lib.hid hap
      by_cases hx1 : x1 = 0
      case neg =>
        have y1 : (x1 == 0) = false := by simpa using hx1
        have y2 : (x1 != 0) = true := by simpa using hx1
        have HX1 := Lib.hid hx1
        clear hx1 hap
        obtain ⟨⟨q0, q1, q2, q3, q4, q5⟩, h0, h1, h2, h3, h4, h5⟩ := lb_cells S1.out.bl
        obtain ⟨b0, b1, b2, b3, k0, k1, k2, k3⟩ := box_cells S1.out.bd
        go_upto_region 11 with fail
        obtain ⟨L2, hL2⟩ : ∃ y : Lg, y = ⟨L1.size, L1.l, L1.n, L1.acked, L1.bytes, true⟩ := ⟨_, rfl⟩
        obtain ⟨w2, hw2⟩ : ∃ y, wc.setCell ⟨pl, 5, none⟩ (.bool true) = y := ⟨_, rfl⟩
        have S2 := Lib.hid (hw2 ▸ S1.out.field (L' := L2) 5 (.bool true) (by rw [hL2]) (by have := heap_setCell_at S1.out.bl 5 (.bool true); rw [hL2]; simpa [logB, LB] using this))
        have HL2 := Lib.hid hL2
        go_upto_region 12 with fail
        (try rw [hw2])
        clear hw2 q0 q1 q2 q3 q4 q5 h0 h1 h2 h3 h4 h5 b0 b1 b2 b3 k0 k1 k2 k3 hL2 
        have HE : Hid (R = ⟨d1, L2, x1⟩) := Lib.hid (by rw [← HR.out, EA.out, HRM.out, if_pos HX1.out, HL2.out])
        obtain ⟨⟨q0, q1, q2, q3, q4, q5⟩, -⟩ := lb_cells S2.out.bl
        obtain ⟨b0, b1, b2, b3, -⟩ := box_cells S2.out.bd
        obtain ⟨u0, u1, u2, u3, hr⟩ := S2.out.brd
        obtain ⟨v0, v1, v2, v3, v4, v5, hq⟩ := S2.out.brl
        obtain ⟨r0, r1, r2, r3, f0, f1, f2, f3⟩ := box_cells hr
        obtain ⟨⟨s0, s1, s2, s3, s4, s5⟩, g0, g1, g2, g3, g4, g5⟩ := lb_cells hq
        obtain ⟨e1, e2, e3, e4, e5, e6⟩ := S2.out.ne
        clear hr hq
        go_region_with fail
        all_goals
          go_wp2
          obtain ⟨w9, hw9, D9, V9, N9, BD9, BL9⟩ := S2.out.fin HX.out
          rw [hw9]
          have ND := (Nw.refl w9).drew
          obtain ⟨e0, e1, e2, e3, -⟩ := box_cells BD9
          obtain ⟨⟨j0, j1, j2, j3, j4, j5⟩, -⟩ := lb_cells BL9
          obtain ⟨k0, k1, k2, k3, -⟩ := box_cells (ND.at_ BD9)
          obtain ⟨⟨i0, i1, i2, i3, i4, i5⟩, -⟩ := lb_cells (ND.at_ BL9)
          refine bodyPost_ret (v := .tuple #[.agg #[.int .i64 m1, .slice a1 n1 c1, .int .i64 la1, .bool dn1], .agg #[.int .i64 L2.size, .slice pa1 L2.l.length pc1, .int .i64 L2.n, .int .i64 L2.acked, .int .i64 L2.bytes, .bool L2.over], .int .i64 x1]) (by simp [results, Tryz.results29, go_sem, e0, e1, e2, e3, j0, j1, j2, j3, j4, j5, k0, k1, k2, k3, i0, i1, i2, i3, i4, i5]) rfl ?_
          rw [HE.out]
          first
            | exact ⟨m1, a1, n1, c1, la1, dn1, pa1, pc1, rfl, D9, V9, N9⟩
            | exact ⟨m1, a1, n1, c1, la1, dn1, pa1, pc1, rfl, D9.nw ND, V9.nw ND, N9.trans ND⟩
      case pos =>
        subst hx1
        obtain ⟨gz, oz, hpa1, hgz, ⟨hl0, hl1, hl2⟩, l0, -, -, -, hnl, -⟩ := pcs_lastAt S1.out.pcs HRF.out.2
        obtain ⟨nm, hnm⟩ : ∃ y, (lastP L1.l).name = y := ⟨_, rfl⟩
        rw [hnm] at l0 hnl hap
        have HA2 := Lib.hid hap
        subst hpa1
        have HNL := Lib.hid hnl
        have C0 := Lib.hid l0
        have hj : IntKind.i64.wrap ((L1.l.length : Int) - 1) = ((L1.l.length - 1 : Nat) : Int) := by rw [show ((L1.l.length : Int) - 1) = ((L1.l.length - 1 : Nat) : Int) by omega]; exact IntWalk.i64_in _ (by omega)
        clear hap hnm hnl l0
        obtain ⟨⟨q0, q1, q2, q3, q4, q5⟩, h0, h1, h2, h3, h4, h5⟩ := lb_cells S1.out.bl
        obtain ⟨b0, b1, b2, b3, k0, k1, k2, k3⟩ := box_cells S1.out.bd
        go_upto_region 9 with fail
        go_cut [10] (fun t wx => ∃ (m2 : Int) (a2 : Option Addr) (n2 c2 : Nat) (la2 : Int) (dn2 : Bool), t = .int .i64 x2 ∧ Sl X w wx pl pd rd rl K d2 m2 a2 n2 c2 la2 dn2 L1 (some ⟨gz, oz, none⟩) pc1)
        case first =>
          have cn0 := C0.out
          have AP := Lib.hid (fun W' (hW : Nw wc W') => (S1.out.on hW).rdk.append (S1.out.on hW).fresh (HNL.out) (BV2.out.nw hW).vec.rd (by have := HLN.out; have := HNB.out; omega) HA2.out)
          have hk0 : (0 : Int) ≤ ((L1.l.length - 1 : Nat) : Int) := by omega
          have hk1 : ((L1.l.length - 1 : Nat) : Int) < (L1.l.length : Int) := by omega
          have HC9 : Hid (∀ W, Nw wc W → W.cell? ⟨pl, 1, none⟩ = some (.slice (some ⟨gz, oz, none⟩) L1.l.length pc1) ∧ W.cell? ⟨gz, oz + (L1.l.length - 1) * 4, none⟩ = some (.string ⟨nm.toArray⟩)) := Lib.hid (fun W hW => ⟨hW.cell q1, hW.cell cn0⟩)
          have hgp : ¬ gz = pd := fun e => by
            have := S1.out.own gz rfl
            have := S1.out.lo
            have := S1.out.hi
            omega
          have HGP := Lib.hid hgp
          have HPP := Lib.hid S1.out.ne.1
          have ND := (Nw.refl wc).drew
          have b0 := ND.cell b0
          have b1 := ND.cell b1
          have b2 := ND.cell b2
          have b3 := ND.cell b3
          clear cn0 q0 q1 q2 q3 q4 q5 h0 h1 h2 h3 h4 h5 k0 k1 k2 k3 hgp ND
          refine wp_region_steps 16 [.rd 1, .rd 2, .rd 3, .rd 4, .rd 5, .rd 6, .rd 7, .rd 8, .rd 9, .rd 10, .dn 0, .dn 11, .rd 12, .rd 13, .rd 14, .dn 15] [16] (fun x => x.cell? ⟨pl, 1, none⟩ = some (.slice (some ⟨gz, oz, none⟩) L1.l.length pc1) ∧ x.cell? ⟨gz, oz + (L1.l.length - 1) * 4, none⟩ = some (.string ⟨nm.toArray⟩)) (by kernel_rfl) (by kernel_rfl) (fun _ _ _ _ _ h => h) (HC9.out _ ((Nw.refl wc).drew)) ?_
          refine stp_to (.pointer (some ⟨pl, 1, none⟩)) rfl rfl (by kernel_rfl) (fun x hx => by go_simp) (fun K' hK => ?_); go_simp; refine hK _ ?_; clear hK K'
          refine stp_to (.slice (some ⟨gz, oz, none⟩) L1.l.length pc1) rfl rfl (by kernel_rfl) (fun x hx => by obtain ⟨e1, e2⟩ := hx; go_simp) (fun K' hK => ?_); go_simp; refine hK _ ?_; clear hK K'
          refine stp_to (.pointer (some ⟨pl, 1, none⟩)) rfl rfl (by kernel_rfl) (fun x hx => by go_simp) (fun K' hK => ?_); go_simp; refine hK _ ?_; clear hK K'
          refine stp_to (.slice (some ⟨gz, oz, none⟩) L1.l.length pc1) rfl rfl (by kernel_rfl) (fun x hx => by obtain ⟨e1, e2⟩ := hx; go_simp) (fun K' hK => ?_); go_simp; refine hK _ ?_; clear hK K'
          refine stp_to (.int .i64 L1.l.length) rfl rfl (by kernel_rfl) (fun x hx => by go_simp) (fun K' hK => ?_); go_simp; refine hK _ ?_; clear hK K'
          refine stp_to (.int .i64 ((L1.l.length - 1 : Nat) : Int)) rfl rfl (by kernel_rfl) (fun x hx => by go_simp) (fun K' hK => ?_); go_simp; refine hK _ ?_; clear hK K'
          refine stp_to (.pointer (some ⟨gz, oz + (L1.l.length - 1) * 4, none⟩)) rfl rfl (by kernel_rfl) (fun x hx => by go_simp) (fun K' hK => ?_); go_simp; refine hK _ ?_; clear hK K'
          refine stp_to (.pointer (some ⟨gz, oz + (L1.l.length - 1) * 4, none⟩)) rfl rfl (by kernel_rfl) (fun x hx => by go_simp) (fun K' hK => ?_); go_simp; refine hK _ ?_; clear hK K'
          refine stp_to (.string ⟨nm.toArray⟩) rfl rfl (by kernel_rfl) (fun x hx => by obtain ⟨e1, e2⟩ := hx; go_simp) (fun K' hK => ?_); go_simp; refine hK _ ?_; clear hK K'
          refine stp_to (.slice fa fb.length fc) rfl rfl (by kernel_rfl) (fun x hx => by go_simp) (fun K' hK => ?_); go_simp; refine hK _ ?_; clear hK K'
          refine stp_dn rfl (fun K' hK => ?_)
          go_wp2
          refine hK _ _ (HC9.out _ ((Nw.refl wc).drew)) ?_; clear hK K' b0 b1 b2 b3
          refine stp_dn rfl (fun K' hK => ?_)
          go_wp2_with fail
          refine (AP.out _ ((Nw.refl wc).drew)).mono ?_
          rintro e y1 ⟨m2, a2, n2, c2, la2, dn2, rfl, dd, nn⟩
          have NN := Lib.hid (((Nw.refl wc).drew).trans nn)
          obtain ⟨w9, hw9, s9, o9⟩ := S1.out.step dd NN.out
          have S9 := Lib.hid s9
          have HC2 := HC9.out _ NN.out
          have HC3 : Hid (w9.cell? ⟨pl, 1, none⟩ = some (.slice (some ⟨gz, oz, none⟩) L1.l.length pc1) ∧ w9.cell? ⟨gz, oz + (L1.l.length - 1) * 4, none⟩ = some (.string ⟨nm.toArray⟩)) := Lib.hid ⟨o9.cell HC2.1 HPP.out, o9.cell HC2.2 HGP.out⟩
          have HC2 := Lib.hid HC2
          have SN := Lib.hid (S1.out.on NN.out)
          clear dd nn s9 o9
          go_wp2
          refine hK _ _ HC2.out ?_; clear hK K'
          refine stp_to (.tuple #[.agg #[.int .i64 m2, .slice a2 n2 c2, .int .i64 la2, .bool dn2], .int .i64 x2]) rfl rfl (by kernel_rfl) (fun x hx => by go_simp) (fun K' hK => ?_); go_simp; refine hK _ ?_; clear hK K'
          refine stp_to (.agg #[.int .i64 m2, .slice a2 n2 c2, .int .i64 la2, .bool dn2]) rfl rfl (by kernel_rfl) (fun x hx => by go_simp) (fun K' hK => ?_); go_simp; refine hK _ ?_; clear hK K'
          refine stp_to (.int .i64 x2) rfl rfl (by kernel_rfl) (fun x hx => by go_simp) (fun K' hK => ?_); go_simp; refine hK _ ?_; clear hK K'
          obtain ⟨p0, p1, p2, p3, r0, r1, r2, r3⟩ := box_cells SN.out.bd
          refine stp_dn rfl (fun K' hK => ?_)
          go_wp2
          (try rw [hw9])
          refine hK _ _ HC3.out ?_; clear hK K' hw9 p0 p1 p2 p3 r0 r1 r2 r3
          refine wpSteps_nil ?_
          refine stp_do rfl (by decide) (fun K' hK => ?_)
          go_wp2
          (try (refine hK _ _ ?_; clear hK K'))
          refine wpNums_nil ?_
          go_wp2
          go_meet
          case rel =>
            exact ⟨m2, a2, n2, c2, la2, dn2, rfl, S9.out⟩
        case rest =>
          obtain ⟨m2, a2, n2, c2, la2, dn2, rfl, s2⟩ := hcut
          have S2 := Lib.hid s2
          clear s2 q0 q1 q2 q3 q4 q5 h0 h1 h2 h3 h4 h5 b0 b1 b2 b3 k0 k1 k2 k3 hl0 hl1 hl2 hj
          obtain ⟨⟨q0, q1, q2, q3, q4, q5⟩, h0, h1, h2, h3, h4, h5⟩ := lb_cells S2.out.bl
          obtain ⟨b0, b1, b2, b3, k0, k1, k2, k3⟩ := box_cells S2.out.bd
          by_cases hx2 : x2 = 0
          case neg =>
            have y1 : (x2 == 0) = false := by simpa using hx2
            have y2 : (x2 != 0) = true := by simpa using hx2
            have HX2 := Lib.hid hx2
            clear hx2
            go_upto_region 11 with fail
            obtain ⟨L2, hL2⟩ : ∃ y : Lg, y = ⟨L1.size, L1.l, L1.n, L1.acked, L1.bytes, true⟩ := ⟨_, rfl⟩
            obtain ⟨w3, hw3⟩ : ∃ y, wc.setCell ⟨pl, 5, none⟩ (.bool true) = y := ⟨_, rfl⟩
            have S3 := Lib.hid (hw3 ▸ S2.out.field (L' := L2) 5 (.bool true) (by rw [hL2]) (by have := heap_setCell_at S2.out.bl 5 (.bool true); rw [hL2]; simpa [logB, LB] using this))
            have HL2 := Lib.hid hL2
            go_upto_region 12 with fail
            (try rw [hw3])
            clear hw3 q0 q1 q2 q3 q4 q5 h0 h1 h2 h3 h4 h5 b0 b1 b2 b3 k0 k1 k2 k3 hL2 
            have HE : Hid (R = ⟨d2, L2, x2⟩) := Lib.hid (by rw [← HR.out, EA.out, HRM.out, if_neg (by simp)]; simp only [Lg.put, EF.out, HAP.out, if_pos HX2.out, ne_eq]; rw [HL2.out])
            obtain ⟨⟨q0, q1, q2, q3, q4, q5⟩, -⟩ := lb_cells S3.out.bl
            obtain ⟨b0, b1, b2, b3, -⟩ := box_cells S3.out.bd
            obtain ⟨u0, u1, u2, u3, hr⟩ := S3.out.brd
            obtain ⟨v0, v1, v2, v3, v4, v5, hq⟩ := S3.out.brl
            obtain ⟨r0, r1, r2, r3, f0, f1, f2, f3⟩ := box_cells hr
            obtain ⟨⟨s0, s1, s2, s3, s4, s5⟩, g0, g1, g2, g3, g4, g5⟩ := lb_cells hq
            obtain ⟨e1, e2, e3, e4, e5, e6⟩ := S3.out.ne
            clear hr hq
            go_region_with fail
            all_goals
              go_wp2
              obtain ⟨w9, hw9, D9, V9, N9, BD9, BL9⟩ := S3.out.fin HX.out
              rw [hw9]
              have ND := (Nw.refl w9).drew
              obtain ⟨e0, e1, e2, e3, -⟩ := box_cells BD9
              obtain ⟨⟨j0, j1, j2, j3, j4, j5⟩, -⟩ := lb_cells BL9
              obtain ⟨k0, k1, k2, k3, -⟩ := box_cells (ND.at_ BD9)
              obtain ⟨⟨i0, i1, i2, i3, i4, i5⟩, -⟩ := lb_cells (ND.at_ BL9)
              refine bodyPost_ret (v := .tuple #[.agg #[.int .i64 m2, .slice a2 n2 c2, .int .i64 la2, .bool dn2], .agg #[.int .i64 L2.size, .slice (some ⟨gz, oz, none⟩) L2.l.length pc1, .int .i64 L2.n, .int .i64 L2.acked, .int .i64 L2.bytes, .bool L2.over], .int .i64 x2]) (by simp [results, Tryz.results29, go_sem, e0, e1, e2, e3, j0, j1, j2, j3, j4, j5, k0, k1, k2, k3, i0, i1, i2, i3, i4, i5]) rfl ?_
              rw [HE.out]
              first
                | exact ⟨m2, a2, n2, c2, la2, dn2, (some ⟨gz, oz, none⟩), pc1, rfl, D9, V9, N9⟩
                | exact ⟨m2, a2, n2, c2, la2, dn2, (some ⟨gz, oz, none⟩), pc1, rfl, D9.nw ND, V9.nw ND, N9.trans ND⟩
          case pos =>
            subst hx2
            have HB1 := Lib.hid HRF.out.1
            obtain ⟨zn, hzn⟩ : ∃ z : Nat, L1.n + ne = z := ⟨_, rfl⟩
            obtain ⟨zb, hzb⟩ : ∃ z : Nat, L1.bytes + fb.length = z := ⟨_, rfl⟩
            have hwn : IntKind.i64.wrap ((L1.n : Int) + (ne : Int)) = (zn : Int) := by rw [← hzn, ← Int.natCast_add]; have h1 : L1.n ≤ 4611686018427387904 := HB1.out.1; have := HNB.out; exact IntWalk.i64_in _ (by omega)
            have hwb : IntKind.i64.wrap ((L1.bytes : Int) + (fb.length : Int)) = (zb : Int) := by rw [← hzb, ← Int.natCast_add]; have h1 : L1.bytes ≤ 4611686018427387904 := HB1.out.2; have := HLN.out; have := HNB.out; exact IntWalk.i64_in _ (by omega)
            have ZN := Lib.hid hzn
            have ZB := Lib.hid hzb
            clear hzn hzb
            go_upto_region 13 with fail
            obtain ⟨L2, hL2⟩ : ∃ y : Lg, y = ⟨L1.size, L1.l, zn, L1.acked, L1.bytes, L1.over⟩ := ⟨_, rfl⟩
            obtain ⟨w3, hw3⟩ : ∃ y, wc.setCell ⟨pl, 2, none⟩ (.int .i64 zn) = y := ⟨_, rfl⟩
            have S3 := Lib.hid (hw3 ▸ S2.out.field (L' := L2) 2 (.int .i64 zn) (by rw [hL2]) (by have := heap_setCell_at S2.out.bl 2 (.int .i64 zn); rw [hL2]; simpa [logB, LB] using this))
            have HL2 := Lib.hid hL2
            go_upto_region 14 with fail
            (try rw [hw3])
            clear hw3 q0 q1 q2 q3 q4 q5 h0 h1 h2 h3 h4 h5 b0 b1 b2 b3 k0 k1 k2 k3 hL2  hwn
            have hbb : L2.bytes = L1.bytes := by rw [HL2.out]
            have hwb : IntKind.i64.wrap ((L2.bytes : Int) + (fb.length : Int)) = (zb : Int) := by rw [hbb]; exact hwb
            clear hbb
            obtain ⟨⟨q0, q1, q2, q3, q4, q5⟩, h0, h1, h2, h3, h4, h5⟩ := lb_cells S3.out.bl
            obtain ⟨b0, b1, b2, b3, k0, k1, k2, k3⟩ := box_cells S3.out.bd
            obtain ⟨L3, hL3⟩ : ∃ y : Lg, y = ⟨L2.size, L2.l, L2.n, L2.acked, zb, L2.over⟩ := ⟨_, rfl⟩
            obtain ⟨w4, hw4⟩ : ∃ y, w3.setCell ⟨pl, 4, none⟩ (.int .i64 zb) = y := ⟨_, rfl⟩
            have S4 := Lib.hid (hw4 ▸ S3.out.field (L' := L3) 4 (.int .i64 zb) (by rw [hL3]) (by have := heap_setCell_at S3.out.bl 4 (.int .i64 zb); rw [hL3]; simpa [logB, LB] using this))
            have HL3 := Lib.hid hL3
            go_upto_region 15 with fail
            (try rw [hw4])
            clear hw4 q0 q1 q2 q3 q4 q5 h0 h1 h2 h3 h4 h5 b0 b1 b2 b3 k0 k1 k2 k3 hL3  hwb
            have HE : Hid (R = ⟨d2, L3, 0⟩) := Lib.hid (by rw [← HR.out, EA.out, HRM.out, if_neg (by simp)]; simp only [Lg.put, EF.out, HAP.out, HNN.out, ne_eq, not_true_eq_false, if_false]; rw [HL3.out, HL2.out, ← ZN.out, ← ZB.out])
            obtain ⟨⟨q0, q1, q2, q3, q4, q5⟩, -⟩ := lb_cells S4.out.bl
            obtain ⟨b0, b1, b2, b3, -⟩ := box_cells S4.out.bd
            obtain ⟨u0, u1, u2, u3, hr⟩ := S4.out.brd
            obtain ⟨v0, v1, v2, v3, v4, v5, hq⟩ := S4.out.brl
            obtain ⟨r0, r1, r2, r3, f0, f1, f2, f3⟩ := box_cells hr
            obtain ⟨⟨s0, s1, s2, s3, s4, s5⟩, g0, g1, g2, g3, g4, g5⟩ := lb_cells hq
            obtain ⟨e1, e2, e3, e4, e5, e6⟩ := S4.out.ne
            clear hr hq
            go_region_with fail
            all_goals
              go_wp2
              obtain ⟨w9, hw9, D9, V9, N9, BD9, BL9⟩ := S4.out.fin HX.out
              rw [hw9]
              have ND := (Nw.refl w9).drew
              obtain ⟨e0, e1, e2, e3, -⟩ := box_cells BD9
              obtain ⟨⟨j0, j1, j2, j3, j4, j5⟩, -⟩ := lb_cells BL9
              obtain ⟨k0, k1, k2, k3, -⟩ := box_cells (ND.at_ BD9)
              obtain ⟨⟨i0, i1, i2, i3, i4, i5⟩, -⟩ := lb_cells (ND.at_ BL9)
              refine bodyPost_ret (v := .tuple #[.agg #[.int .i64 m2, .slice a2 n2 c2, .int .i64 la2, .bool dn2], .agg #[.int .i64 L3.size, .slice (some ⟨gz, oz, none⟩) L3.l.length pc1, .int .i64 L3.n, .int .i64 L3.acked, .int .i64 L3.bytes, .bool L3.over], .int .i64 0]) (by simp [results, Tryz.results29, go_sem, e0, e1, e2, e3, j0, j1, j2, j3, j4, j5, k0, k1, k2, k3, i0, i1, i2, i3, i4, i5]) rfl ?_
              rw [HE.out]
              first
                | exact ⟨m2, a2, n2, c2, la2, dn2, (some ⟨gz, oz, none⟩), pc1, rfl, D9, V9, N9⟩
                | exact ⟨m2, a2, n2, c2, la2, dn2, (some ⟨gz, oz, none⟩), pc1, rfl, D9.nw ND, V9.nw ND, N9.trans ND⟩
end
end Go.Proofs.YtkbenkldfehhlaaGreatDoor

namespace Go.Proofs.YtkbenkldfehhlaaGreatDoor
open Go Go.RowKit Go.Sort
set_option maxRecDepth 100000
set_option maxHeartbeats 3200000
section
variable {X Y : Nat → Prop} {d0 d' : Dsk} {v lv : Value} {w wk w' : World} {L0 L' : Lg}
theorem dSwap_ok (h : RD X w v d0) (hl : LogV X w lv L0) (hne : L0.l ≠ []) (hX : ∀ k, w.heap.size ≤ k → X k) {pv : Value} {ps : List Pc} (hps : Pcs w pv ps) (hpl : ps.length ≤ 1000) :
    Calls Tryz.prog 33 #[lv, v, pv] w (RDL X w (L0.swap d0 ps).d (L0.swap d0 ps).L (L0.swap d0 ps).e) := by
  obtain ⟨ea, ec, rfl, -, -⟩ := hps.elem
  have HP := Lib.hid hps
  have HPL := Lib.hid hpl
  have HNE := Lib.hid hne
  clear hps hpl
  obtain ⟨m0, a0, n0, c0, la0, dn0, rfl⟩ := h.parts
  obtain ⟨pa0, pc0, rfl, hp, ho⟩ := hl
  have S0 := Lib.hid (Sl.new hne h hp ho)
  have HX := Lib.hid hX
  clear h hX hp ho
  obtain ⟨R, hR⟩ : ∃ r, L0.swap d0 ps = r := ⟨_, rfl⟩
  have HR := Lib.hid hR
  rw [hR]
  clear hR
  obtain ⟨w0, hw0⟩ : ∃ x, (((w.alloc (logB L0 pa0 pc0)).alloc (DB (.int .i64 m0) (.slice a0 n0 c0) (.int .i64 la0) (.bool dn0))).alloc (DB (.int .i64 0) (.slice none 0 0) (.int .i64 0) (.bool false))).alloc (LB (.int .i64 0) (.slice none 0 0) (.int .i64 0) (.int .i64 0) (.int .i64 0) (.bool false)) = x := ⟨_, rfl⟩
  have hkk := (four_boxes w (logB L0 pa0 pc0) (DB (.int .i64 m0) (.slice a0 n0 c0) (.int .i64 la0) (.bool dn0)) (DB (.int .i64 0) (.slice none 0 0) (.int .i64 0) (.bool false)) (LB (.int .i64 0) (.slice none 0 0) (.int .i64 0) (.int .i64 0) (.int .i64 0) (.bool false))).2.2.2.2.2
  rw [hw0] at S0 hkk
  unfold logB LB DB at hw0
  go_enter Tryz.func33, Tryz.ntmps33
  go_upto_region 1 with fail
  clear hw0
  generalize w.heap.size + 4 = K at S0 hkk
  have HK0 := Lib.hid hkk
  clear hkk
  generalize w.heap.size + 1 + 1 + 1 = rl at S0 ⊢
  generalize w.heap.size + 1 + 1 = rd at S0 ⊢
  generalize w.heap.size + 1 = pd at S0 ⊢
  generalize w.heap.size = pl at S0 ⊢
  clear hne
  cases hov : L0.over
  case true =>
    obtain ⟨⟨q0, q1, q2, q3, q4, q5⟩, h0, h1, h2, h3, h4, h5⟩ := lb_cells S0.out.bl
    obtain ⟨b0, b1, b2, b3, k0, k1, k2, k3⟩ := box_cells S0.out.bd
    rw [hov] at q5
    have HOV := Lib.hid hov
    clear hov
    go_upto_region 2 with fail
    clear q0 q1 q2 q3 q4 q5 h0 h1 h2 h3 h4 h5 b0 b1 b2 b3 k0 k1 k2 k3
    have HE : Hid (R = ⟨d0, L0, 16⟩) := Lib.hid (by rw [← HR.out]; unfold Lg.swap; rw [HOV.out]; rfl)
    obtain ⟨⟨q0, q1, q2, q3, q4, q5⟩, -⟩ := lb_cells S0.out.bl
    obtain ⟨b0, b1, b2, b3, -⟩ := box_cells S0.out.bd
    obtain ⟨u0, u1, u2, u3, hr⟩ := S0.out.brd
    obtain ⟨v0, v1, v2, v3, v4, v5, hq⟩ := S0.out.brl
    obtain ⟨r0, r1, r2, r3, f0, f1, f2, f3⟩ := box_cells hr
    obtain ⟨⟨s0, s1, s2, s3, s4, s5⟩, g0, g1, g2, g3, g4, g5⟩ := lb_cells hq
    obtain ⟨e1, e2, e3, e4, e5, e6⟩ := S0.out.ne
    clear hr hq
    go_region_with fail
    all_goals
      go_wp2
      obtain ⟨w9, hw9, D9, V9, N9, BD9, BL9⟩ := S0.out.fin HX.out
      rw [hw9]
      have ND := (Nw.refl w9).drew
      obtain ⟨e0, e1, e2, e3, -⟩ := box_cells BD9
      obtain ⟨⟨j0, j1, j2, j3, j4, j5⟩, -⟩ := lb_cells BL9
      obtain ⟨k0, k1, k2, k3, -⟩ := box_cells (ND.at_ BD9)
      obtain ⟨⟨i0, i1, i2, i3, i4, i5⟩, -⟩ := lb_cells (ND.at_ BL9)
      refine bodyPost_ret (v := .tuple #[.agg #[.int .i64 m0, .slice a0 n0 c0, .int .i64 la0, .bool dn0], .agg #[.int .i64 L0.size, .slice pa0 L0.l.length pc0, .int .i64 L0.n, .int .i64 L0.acked, .int .i64 L0.bytes, .bool L0.over], .int .i64 16]) (by simp [results, Tryz.results33, go_sem, e0, e1, e2, e3, j0, j1, j2, j3, j4, j5, k0, k1, k2, k3, i0, i1, i2, i3, i4, i5]) rfl ?_
      rw [HE.out]
      first
        | exact ⟨m0, a0, n0, c0, la0, dn0, pa0, pc0, rfl, D9, V9, N9⟩
        | exact ⟨m0, a0, n0, c0, la0, dn0, pa0, pc0, rfl, D9.nw ND, V9.nw ND, N9.trans ND⟩
  have HOV := Lib.hid hov
  obtain ⟨i0, hi, hz0, hz1, hz2⟩ := info_parts infoPc
  have HI := Lib.hid hi
  have HZ0 := Lib.hid hz0
  have HZ1 := Lib.hid hz1
  have HZ2 := Lib.hid hz2
  clear hi hz0 hz1 hz2
  obtain ⟨np, hnp⟩ : ∃ k, ps.length = k := ⟨_, rfl⟩
  have HNP := Lib.hid hnp
  have HPB : Hid (np ≤ 1000) := Lib.hid (by rw [← hnp]; exact HPL.out)
  have VN := Lib.hid (Vec.nil (k := 4) (w := w0))
  have SP := (HP.out.nw S0.out.nw).src
  rw [hnp] at SP ⊢
  have SP := Lib.hid SP
  obtain ⟨⟨q0, q1, q2, q3, q4, q5⟩, h0, h1, h2, h3, h4, h5⟩ := lb_cells S0.out.bl
  obtain ⟨b0, b1, b2, b3, k0, k1, k2, k3⟩ := box_cells S0.out.bd
  rw [hov] at q5
  clear hov hnp
  go_upto_region 4 with fail
  go_wp2_with (at_builtin; refine wpList_append_vec rfl _ _ 32 rfl 98 i0 (.agg #[.string ⟨#[]⟩, .int .i64 0, .int .i64 0, .bool false]) 4 40 Tryz.underlying32 HI.out HZ0.out HZ1.out HZ2.out rfl (by decide) rfl rfl VN.out SP.out ?c1 ?c2 ?c3 ?_)
  case c1 => exact pcV_one _
  case c2 => have := HPB.out; unfold maxLen; omega
  case c3 => have := HPB.out; omega
  intro v1 w1 q6 q7 q8
  (try rw [Nat.zero_add] at q6)
  (try rw [List.nil_append] at q6)
  obtain ⟨xa, xc, rfl, -⟩ := q6.len
  have N1 : Hid (Nw w0 w1) := Lib.hid (q7.mono (fun k _ hk => by cases hk))
  have V1 : Hid (OV 4 w0.heap.size w1 (.slice xa np xc) np (ps.flatMap pcV)) := Lib.hid ⟨q6, fun k hk => by
    rcases q8 with h | h
    · rw [h] at hk; cases hk
    · exact h k hk⟩
  clear q6 q7 q8 VN SP
  clear q0 q1 q2 q3 q4 q5 h0 h1 h2 h3 h4 h5 b0 b1 b2 b3 k0 k1 k2 k3
  have S1 := Lib.hid (S0.out.on N1.out)
  obtain ⟨g, o, hpa, hg, ⟨hl0, hl1, hl2⟩, l0, l1, l2, l3, hnl, hin⟩ := pcs_lastAt S1.out.pcs HNE.out
  subst hpa
  have hcc := HP.out.ok
  have hll := S1.out.pcs.ok
  obtain ⟨nm, hnm⟩ : ∃ y, (lastP L0.l).name = y := ⟨_, rfl⟩
  obtain ⟨fi, hfi⟩ : ∃ y, (lastP L0.l).first = y := ⟨_, rfl⟩
  obtain ⟨ct, hct⟩ : ∃ y, (lastP L0.l).count = y := ⟨_, rfl⟩
  obtain ⟨de, hde⟩ : ∃ y, (lastP L0.l).dense = y := ⟨_, rfl⟩
  have HLAST : Hid (lastP L0.l = ⟨nm, fi, ct, de⟩) := Lib.hid (by rw [← hnm, ← hfi, ← hct, ← hde])
  rw [hnm] at l0
  rw [hfi] at l1
  rw [hct] at l2
  rw [hde] at l3
  have hj : IntKind.i64.wrap ((L0.l.length : Int) - 1) = ((L0.l.length - 1 : Nat) : Int) := by rw [show ((L0.l.length : Int) - 1) = ((L0.l.length - 1 : Nat) : Int) by omega]; exact IntWalk.i64_in _ (by omega)
  have hk0 : (0 : Int) ≤ ((L0.l.length - 1 : Nat) : Int) := by omega
  have hk1 : ((L0.l.length - 1 : Nat) : Int) < (L0.l.length : Int) := by omega
  obtain ⟨L2, hL2⟩ : ∃ y : Lg, y = ⟨L0.size, ps ++ [lastP L0.l], L0.n, L0.acked, L0.bytes, L0.over⟩ := ⟨_, rfl⟩
  have HLG2 := Lib.hid hL2
  have hml : np + 1 = L2.l.length := by rw [hL2, ← HNP.out]; simp
  have HML := Lib.hid hml
  have hmf : ps.flatMap pcV ++ [.string ⟨nm.toArray⟩, .int .i64 fi, .int .i64 ct, .bool de] = L2.l.flatMap pcV := by rw [hL2, HLAST.out]; simp [pcV]
  have HMF := Lib.hid hmf
  have hmo : ∀ q ∈ L2.l, q.Ok := by
    rw [hL2]
    intro q hq
    rcases List.mem_append.1 hq with h | h
    · exact hcc q h
    · rw [List.mem_singleton] at h
      subst h
      refine hll _ ?_
      have : lastP L0.l ∈ L0.l.dropLast ++ [lastP L0.l] := by simp
      rwa [← split_last HNE.out] at this
  have HMO := Lib.hid hmo
  clear hnm hfi hct hde hnl hin hcc hll hL2 hml hmf hmo
  have hna := (Nw.refl w1).alloc (.cells #[.string ⟨nm.toArray⟩, .int .i64 fi, .int .i64 ct, .bool de] 98 (0, 0))
  have NA := Lib.hid hna
  have VX := Lib.hid (V1.out.nw hna)
  have SX := Lib.hid (src_lit w1 98 (0, 0) 4 1 1 [.string ⟨nm.toArray⟩, .int .i64 fi, .int .i64 ct, .bool de] rfl (by omega) (by decide))
  clear hna
  obtain ⟨⟨q0, q1, q2, q3, q4, q5⟩, h0, h1, h2, h3, h4, h5⟩ := lb_cells S1.out.bl
  obtain ⟨b0, b1, b2, b3, k0, k1, k2, k3⟩ := box_cells S1.out.bd
  clear b0 b1 b2 b3 k0 k1 k2 k3 h0 h1 h2 h3 h4 h5
  go_upto_region 5 with fail
  go_wp2_with (at_builtin; refine wpList_append_vec rfl _ _ 32 rfl 98 i0 (.agg #[.string ⟨#[]⟩, .int .i64 0, .int .i64 0, .bool false]) 4 40 Tryz.underlying32 HI.out HZ0.out HZ1.out HZ2.out rfl (by decide) rfl rfl VX.out.vec SX.out ?c1 ?c2 ?c3 ?_)
  case c1 => exact fun u hu => by simp only [List.mem_cons, List.not_mem_nil, or_false] at hu; rcases hu with rfl | rfl | rfl | rfl <;> rfl
  case c2 => have := HPB.out; unfold maxLen; omega
  case c3 => have := HPB.out; omega
  intro v2 w2 q6 q7 q8
  obtain ⟨xa2, xc2, rfl, -⟩ := q6.len
  rw [HMF.out, HML.out] at q6
  have hn2 : Nw w0 w2 := (N1.out.trans NA.out).trans' q7 (fun k hk hc => by have := V1.out.off k hc; omega)
  have V2 : Hid (OV 4 w0.heap.size w2 (.slice xa2 L2.l.length xc2) L2.l.length (L2.l.flatMap pcV)) := Lib.hid ⟨q6, fun k hk => by
    have hk : (Value.slice xa2 (np + 1) xc2).ownBlock = some k := by rw [← hk]; cases xa2 <;> rfl
    rcases q8 with h | h
    · exact V1.out.off k (h.symm.trans hk)
    · have e := (N1.out.trans NA.out).size
      have h9 := h k hk
      rw [World.size_alloc] at e
      omega⟩
  have S2 := Lib.hid (S0.out.on hn2)
  have PC2 : Hid (Pcs w2 (.slice xa2 L2.l.length xc2) L2.l) := Lib.hid (V2.out.vec.pcs HMO.out)
  have RT := Lib.hid (dRight_ok PC2.out)
  rw [HML.out]
  clear q6 q7 q8 hn2 VX SX NA N1 V1 S1 q0 q1 q2 q3 q4 q5 l0 l1 l2 l3 hj hk0 hk1 hl0 hl1 hl2 hg
  go_upto_region 6 with fail
  go_wp2_with fail
  refine RT.out.mono ?_
  rintro e w2b ⟨rfl, n2b⟩
  have S2 := Lib.hid (S2.out.on n2b)
  have PC2 := Lib.hid (PC2.out.nw n2b)
  have V2 := Lib.hid (V2.out.nw n2b)
  clear n2b RT
  cases hrt : rightL L2.l
  case false =>
    have HRT := Lib.hid hrt
    clear hrt
    go_upto_region 7 with fail
    have HE : Hid (R = ⟨d0, L0, 14⟩) := Lib.hid (by rw [← HR.out]; unfold Lg.swap; rw [HOV.out]; have h := HRT.out; rw [HLG2.out] at h; simp only at h; rw [if_neg (by simp), if_pos h])
    obtain ⟨⟨q0, q1, q2, q3, q4, q5⟩, -⟩ := lb_cells S2.out.bl
    obtain ⟨b0, b1, b2, b3, -⟩ := box_cells S2.out.bd
    obtain ⟨u0, u1, u2, u3, hr⟩ := S2.out.brd
    obtain ⟨v0, v1, v2, v3, v4, v5, hq⟩ := S2.out.brl
    obtain ⟨r0, r1, r2, r3, f0, f1, f2, f3⟩ := box_cells hr
    obtain ⟨⟨s0, s1, s2, s3, s4, s5⟩, g0, g1, g2, g3, g4, g5⟩ := lb_cells hq
    obtain ⟨e1, e2, e3, e4, e5, e6⟩ := S2.out.ne
    clear hr hq
    go_region_with fail
    all_goals
      go_wp2
      obtain ⟨w9, hw9, D9, V9, N9, BD9, BL9⟩ := S2.out.fin HX.out
      rw [hw9]
      have ND := (Nw.refl w9).drew
      obtain ⟨e0, e1, e2, e3, -⟩ := box_cells BD9
      obtain ⟨⟨j0, j1, j2, j3, j4, j5⟩, -⟩ := lb_cells BL9
      obtain ⟨k0, k1, k2, k3, -⟩ := box_cells (ND.at_ BD9)
      obtain ⟨⟨i0, i1, i2, i3, i4, i5⟩, -⟩ := lb_cells (ND.at_ BL9)
      refine bodyPost_ret (v := .tuple #[.agg #[.int .i64 m0, .slice a0 n0 c0, .int .i64 la0, .bool dn0], .agg #[.int .i64 L0.size, .slice (some ⟨g, o, none⟩) L0.l.length pc0, .int .i64 L0.n, .int .i64 L0.acked, .int .i64 L0.bytes, .bool L0.over], .int .i64 14]) (by simp [results, Tryz.results33, go_sem, e0, e1, e2, e3, j0, j1, j2, j3, j4, j5, k0, k1, k2, k3, i0, i1, i2, i3, i4, i5]) rfl ?_
      rw [HE.out]
      first
        | exact ⟨m0, a0, n0, c0, la0, dn0, (some ⟨g, o, none⟩), pc0, rfl, D9, V9, N9⟩
        | exact ⟨m0, a0, n0, c0, la0, dn0, (some ⟨g, o, none⟩), pc0, rfl, D9.nw ND, V9.nw ND, N9.trans ND⟩
  case true =>
    have HRT := Lib.hid hrt
    clear hrt
    obtain ⟨d1, x1, hr1⟩ : ∃ d1 x1, d0.install L2.l = (d1, x1) := ⟨_, _, rfl⟩
    have HR1 : Hid (d0.install (ps ++ [lastP L0.l]) = (d1, x1)) := Lib.hid (by rw [← hr1, HLG2.out])
    have R1 := Lib.hid (dInstall_ok S2.out.rdk S2.out.fresh PC2.out hr1)
    have HRX : Hid (¬ rightL (ps ++ [lastP L0.l]) = false) := Lib.hid (by have h := HRT.out; rw [HLG2.out] at h; simp only at h; rw [h]; simp)
    clear hr1
    obtain ⟨⟨q0, q1, q2, q3, q4, q5⟩, h0, h1, h2, h3, h4, h5⟩ := lb_cells S2.out.bl
    obtain ⟨b0, b1, b2, b3, k0, k1, k2, k3⟩ := box_cells S2.out.bd
    go_upto_region 8 with fail
    go_wp2_with fail
    refine R1.out.mono ?_
    rintro e y3 ⟨m1, a1, n1, c1, la1, dn1, rfl, dd, nn⟩
    obtain ⟨w3, hw3, s3, o3⟩ := S2.out.step dd nn
    have S3 := Lib.hid s3
    have V3 := Lib.hid ((V2.out.nw nn).put o3 (fun k hk => by subst hk; have := S0.out.hi; have := S0.out.kk; omega))
    clear R1 s3 o3 q0 q1 q2 q3 q4 q5 h0 h1 h2 h3 h4 h5 b0 b1 b2 b3 k0 k1 k2 k3
    have TY := Lib.hid (S2.out.on nn)
    clear dd nn
    obtain ⟨b0, b1, b2, b3, k0, k1, k2, k3⟩ := box_cells TY.out.bd
    go_upto_if 41 with fail
    (try rw [hw3])
    clear hw3 b0 b1 b2 b3 k0 k1 k2 k3 TY
    by_cases hx1 : x1 = 0
    case neg =>
      have y2 : (x1 != 0) = true := by simpa using hx1
      have HX1 := Lib.hid hx1
      clear hx1
      obtain ⟨⟨q0, q1, q2, q3, q4, q5⟩, h0, h1, h2, h3, h4, h5⟩ := lb_cells S3.out.bl
      obtain ⟨b0, b1, b2, b3, k0, k1, k2, k3⟩ := box_cells S3.out.bd
      go_upto_region 10 with fail
      obtain ⟨L1, hL1⟩ : ∃ y : Lg, y = ⟨L0.size, L0.l, L0.n, L0.acked, L0.bytes, true⟩ := ⟨_, rfl⟩
      obtain ⟨w4, hw4⟩ : ∃ y, w3.setCell ⟨pl, 5, none⟩ (.bool true) = y := ⟨_, rfl⟩
      have S4 := Lib.hid (hw4 ▸ S3.out.field (L' := L1) 5 (.bool true) (by rw [hL1]) (by have := heap_setCell_at S3.out.bl 5 (.bool true); rw [hL1]; simpa [logB, LB] using this))
      have HL1 := Lib.hid hL1
      go_upto_region 11 with fail
      (try rw [hw4])
      clear hw4 q0 q1 q2 q3 q4 q5 h0 h1 h2 h3 h4 h5 b0 b1 b2 b3 k0 k1 k2 k3 hL1
      have HE : Hid (R = ⟨d1, L1, x1⟩) := Lib.hid (by rw [← HR.out]; unfold Lg.swap; rw [HOV.out, if_neg (by simp), if_neg HRX.out]; simp only [HR1.out]; rw [if_pos HX1.out, HL1.out])
      obtain ⟨⟨q0, q1, q2, q3, q4, q5⟩, -⟩ := lb_cells S4.out.bl
      obtain ⟨b0, b1, b2, b3, -⟩ := box_cells S4.out.bd
      obtain ⟨u0, u1, u2, u3, hr⟩ := S4.out.brd
      obtain ⟨v0, v1, v2, v3, v4, v5, hq⟩ := S4.out.brl
      obtain ⟨r0, r1, r2, r3, f0, f1, f2, f3⟩ := box_cells hr
      obtain ⟨⟨s0, s1, s2, s3, s4, s5⟩, g0, g1, g2, g3, g4, g5⟩ := lb_cells hq
      obtain ⟨e1, e2, e3, e4, e5, e6⟩ := S4.out.ne
      clear hr hq
      go_region_with fail
      all_goals
        go_wp2
        obtain ⟨w9, hw9, D9, V9, N9, BD9, BL9⟩ := S4.out.fin HX.out
        rw [hw9]
        have ND := (Nw.refl w9).drew
        obtain ⟨e0, e1, e2, e3, -⟩ := box_cells BD9
        obtain ⟨⟨j0, j1, j2, j3, j4, j5⟩, -⟩ := lb_cells BL9
        obtain ⟨k0, k1, k2, k3, -⟩ := box_cells (ND.at_ BD9)
        obtain ⟨⟨i0, i1, i2, i3, i4, i5⟩, -⟩ := lb_cells (ND.at_ BL9)
        refine bodyPost_ret (v := .tuple #[.agg #[.int .i64 m1, .slice a1 n1 c1, .int .i64 la1, .bool dn1], .agg #[.int .i64 L1.size, .slice (some ⟨g, o, none⟩) L1.l.length pc0, .int .i64 L1.n, .int .i64 L1.acked, .int .i64 L1.bytes, .bool L1.over], .int .i64 x1]) (by simp [results, Tryz.results33, go_sem, e0, e1, e2, e3, j0, j1, j2, j3, j4, j5, k0, k1, k2, k3, i0, i1, i2, i3, i4, i5]) rfl ?_
        rw [HE.out]
        first
          | exact ⟨m1, a1, n1, c1, la1, dn1, (some ⟨g, o, none⟩), pc0, rfl, D9, V9, N9⟩
          | exact ⟨m1, a1, n1, c1, la1, dn1, (some ⟨g, o, none⟩), pc0, rfl, D9.nw ND, V9.nw ND, N9.trans ND⟩
    subst hx1
    obtain ⟨⟨q0, q1, q2, q3, q4, q5⟩, h0, h1, h2, h3, h4, h5⟩ := lb_cells S3.out.bl
    obtain ⟨b0, b1, b2, b3, k0, k1, k2, k3⟩ := box_cells S3.out.bd
    have f1 : L2.size = L0.size := by rw [HLG2.out]
    have f2 : L2.n = L0.n := by rw [HLG2.out]
    have f3 : L2.acked = L0.acked := by rw [HLG2.out]
    have f4 : L2.bytes = L0.bytes := by rw [HLG2.out]
    have f5 : L2.over = L0.over := by rw [HLG2.out]
    obtain ⟨w4, hw4⟩ : ∃ y, w3.setCell ⟨pl, 1, none⟩ (.slice xa2 L2.l.length xc2) = y := ⟨_, rfl⟩
    have S4 := Lib.hid (hw4 ▸ S3.out.pieces (L' := L2) (pa' := xa2) (pc' := xc2) (by have := heap_setCell_at S3.out.bl 1 (.slice xa2 L2.l.length xc2); unfold logB LB; rw [f1, f2, f3, f4, f5]; simpa [logB, LB] using this) (V3.out.vec.pcs HMO.out) (fun g hg => .inr (Nat.le_trans S0.out.kk (V3.out.off g hg))))
    clear f1 f2 f3 f4 f5
    go_upto_region 13 with fail
    (try rw [hw4])
    clear hw4 q0 q1 q2 q3 q4 q5 h0 h1 h2 h3 h4 h5 b0 b1 b2 b3 k0 k1 k2 k3
    have HE : Hid (R = ⟨d1, L2, 0⟩) := Lib.hid (by rw [← HR.out]; unfold Lg.swap; rw [HOV.out, if_neg (by simp), if_neg HRX.out]; simp only [HR1.out]; rw [if_neg (by simp), HLG2.out, HOV.out])
    obtain ⟨⟨q0, q1, q2, q3, q4, q5⟩, -⟩ := lb_cells S4.out.bl
    obtain ⟨b0, b1, b2, b3, -⟩ := box_cells S4.out.bd
    obtain ⟨u0, u1, u2, u3, hr⟩ := S4.out.brd
    obtain ⟨v0, v1, v2, v3, v4, v5, hq⟩ := S4.out.brl
    obtain ⟨r0, r1, r2, r3, f0, f1, f2, f3⟩ := box_cells hr
    obtain ⟨⟨s0, s1, s2, s3, s4, s5⟩, g0, g1, g2, g3, g4, g5⟩ := lb_cells hq
    obtain ⟨e1, e2, e3, e4, e5, e6⟩ := S4.out.ne
    clear hr hq
    go_region_with fail
    all_goals
      go_wp2
      obtain ⟨w9, hw9, D9, V9, N9, BD9, BL9⟩ := S4.out.fin HX.out
      rw [hw9]
      have ND := (Nw.refl w9).drew
      obtain ⟨e0, e1, e2, e3, -⟩ := box_cells BD9
      obtain ⟨⟨j0, j1, j2, j3, j4, j5⟩, -⟩ := lb_cells BL9
      obtain ⟨k0, k1, k2, k3, -⟩ := box_cells (ND.at_ BD9)
      obtain ⟨⟨i0, i1, i2, i3, i4, i5⟩, -⟩ := lb_cells (ND.at_ BL9)
      refine bodyPost_ret (v := .tuple #[.agg #[.int .i64 m1, .slice a1 n1 c1, .int .i64 la1, .bool dn1], .agg #[.int .i64 L2.size, .slice xa2 L2.l.length xc2, .int .i64 L2.n, .int .i64 L2.acked, .int .i64 L2.bytes, .bool L2.over], .int .i64 0]) (by simp [results, Tryz.results33, go_sem, e0, e1, e2, e3, j0, j1, j2, j3, j4, j5, k0, k1, k2, k3, i0, i1, i2, i3, i4, i5]) rfl ?_
      rw [HE.out]
      first
        | exact ⟨m1, a1, n1, c1, la1, dn1, xa2, xc2, rfl, D9, V9, N9⟩
        | exact ⟨m1, a1, n1, c1, la1, dn1, xa2, xc2, rfl, D9.nw ND, V9.nw ND, N9.trans ND⟩
end
end Go.Proofs.YtkbenkldfehhlaaGreatDoor

namespace Go.Proofs.YtkbenkldfehhlaaGreatDoor
open Go Go.RowKit Go.Sort
set_option maxRecDepth 100000
set_option maxHeartbeats 1600000
section
variable {X : Nat → Prop} {w0 w : World} {p b : Nat} {d : Dsk} {L : Lg}
theorem Swap_ok (h : HasL X w0 w p b d L) {v : Value} {ps : List Pc} (hv : Pcs w v ps) (hl : ps.length ≤ 1000) :
    Calls Tryz.prog 32 #[.pointer (some ⟨p, 0, none⟩), v] w (DidL X w0 w p b (L.swap d ps).d (L.swap d ps).L (.int .i64 (L.swap d ps).e)) := by
  obtain ⟨g, o, cap, h⟩ := h
  have H := Lib.hid h
  obtain ⟨va, vc, rfl, -⟩ := hv.src.len
  cases hov : L.over
  case true =>
    have E : Hid (L.swap d ps = ⟨d, L, 16⟩) := Lib.hid (by unfold Lg.swap; rw [hov]; rfl)
    have HU := Lib.hid (lup_ok h.mem)
    rw [hov] at HU
    rw [E.out]
    clear h hov E hv
    go_enter Tryz.func32, Tryz.ntmps32
    go_wp2_with fail
    refine HU.out.mono ?_
    rintro e w1 ⟨rfl, rfl⟩
    go_wp2
    go_ret
    exact ⟨rfl, ⟨g, o, cap, H.out⟩, Kept.refl _⟩
  obtain ⟨l2, hl2⟩ : ∃ r, ps ++ [lastP L.l] = r := ⟨_, rfl⟩
  obtain ⟨r, hr⟩ : ∃ r, d.install l2 = r := ⟨_, rfl⟩
  have E1 : Hid (rightL l2 = false → L.swap d ps = ⟨d, L, 14⟩) := Lib.hid (fun hx => by unfold Lg.swap; rw [hov, hl2, if_neg (by simp), if_pos hx])
  have E2 : Hid (rightL l2 = true → r.2 ≠ 0 → L.swap d ps = ⟨r.1, { L with over := true }, r.2⟩) := Lib.hid (fun hx hy => by unfold Lg.swap; rw [hov, hl2, hr, if_neg (by simp), if_neg (by simp [hx]), if_pos hy])
  have E3 : Hid (rightL l2 = true → r.2 = 0 → L.swap d ps = ⟨r.1, { L with l := l2 }, 0⟩) := Lib.hid (fun hx hy => by unfold Lg.swap; rw [hov, hl2, hr, if_neg (by simp), if_neg (by simp [hx]), if_neg (by simp [hy])])
  have HR := Lib.hid hr
  have HL2 := Lib.hid hl2
  have HU := Lib.hid (lup_ok h.mem)
  rw [hov] at HU
  have HOV := Lib.hid hov
  have HV := Lib.hid hv
  have HO : Hid (∀ W, Nw w W → Calls Tryz.prog 73 #[.pointer (some ⟨p, 0, none⟩)] W fun e w' => e = .returned (.pointer (some ⟨g, o + (L.l.length - 1) * 4, none⟩)) ∧ Nw W w') := Lib.hid (fun W hW => lopen_ok (H.out.nw hW).mem)
  obtain ⟨i0, hi, hz0, hz1, hz2⟩ := info_parts infoPc
  have HI := Lib.hid hi
  have HZ0 := Lib.hid hz0
  have HZ1 := Lib.hid hz1
  have HZ2 := Lib.hid hz2
  obtain ⟨n, hn⟩ : ∃ n, ps.length = n := ⟨_, rfl⟩
  have HN := Lib.hid hn
  rw [hn] at hl
  obtain ⟨m4, hm4⟩ : ∃ q, o + (L.l.length - 1) * 4 = q := ⟨_, rfl⟩
  rw [hm4] at HO
  have HC : Hid (∀ W, Nw w W → W.cell? ⟨g, m4, none⟩ = some (.string ⟨(lastP L.l).name.toArray⟩) ∧ W.cell? ⟨g, m4 + 1, none⟩ = some (.int .i64 (lastP L.l).first) ∧ W.cell? ⟨g, m4 + 2, none⟩ = some (.int .i64 (lastP L.l).count) ∧ W.cell? ⟨g, m4 + 3, none⟩ = some (.bool (lastP L.l).dense) ∧ g < W.heap.size) := Lib.hid (fun W hW => by
    obtain ⟨a1, a2, a3, a4, a5, -⟩ := (H.out.nw hW).mem.last
    rw [hm4] at a1 a2 a3 a4
    exact ⟨a1, a2, a3, a4, a5⟩)
  have HQ : Hid ((lastP L.l).Ok) := Lib.hid (by
    have := lastP_at h.mem.some_
    rw [← this]
    exact h.mem.pcs.ok _ (List.getElem_mem _))
  clear h hov hr hl2 hv hn hm4 hi hz0 hz1 hz2
  generalize lastP L.l = q at HC HL2 HQ
  go_enter Tryz.func32, Tryz.ntmps32
  go_wp2_with fail
  refine HU.out.mono ?_
  rintro e w1 ⟨rfl, rfl⟩
  rw [HN.out]
  go_wp2_with fail
  have CL := Lib.hid (PClone_ok HV.out (by rw [HN.out]; omega))
  rw [HN.out] at CL
  refine CL.out.mono ?_
  rintro e w1 ⟨v1, rfl, q1, q2, q3⟩
  rw [HN.out] at q1
  obtain ⟨xa, xc, rfl, -⟩ := q1.len
  have N1 := Lib.hid q2
  have V1 := Lib.hid q1
  have F1 : Hid (∀ j, (Value.slice xa n xc).ownBlock = some j → w.heap.size ≤ j) := Lib.hid q3
  clear q1 q2 q3 CL
  go_wp2_with fail
  refine (HO.out _ N1.out).mono ?_
  rintro e w2 ⟨rfl, n2⟩
  have N2 := Lib.hid (N1.out.trans n2)
  have V2 := Lib.hid (V1.out.nw n2)
  clear n2 V1
  obtain ⟨a1, a2, a3, a4, a5⟩ := HC.out _ N2.out
  have SL := src_lit w2 98 (0, 0) 4 1 1 ([.string ⟨q.name.toArray⟩, .int .i64 q.first, .int .i64 q.count, .bool q.dense] : List Value) rfl (by omega) (by decide)
  have SL := Lib.hid SL
  have NA : Hid (Nw w2 (w2.alloc (.cells #[.string ⟨q.name.toArray⟩, .int .i64 q.first, .int .i64 q.count, .bool q.dense] 98 (0, 0)))) := Lib.hid ((Nw.refl _).alloc _)
  go_wp2_with (at_builtin; refine wpList_append_vec rfl _ _ 32 rfl 98 i0 (.agg #[.string ⟨#[]⟩, .int .i64 0, .int .i64 0, .bool false]) 4 40 Tryz.underlying32 HI.out HZ0.out HZ1.out HZ2.out rfl (by decide) rfl rfl (V2.out.nw NA.out) SL.out ?c1 ?c2 ?c3 ?_)
  case c1 =>
    intro u hu
    simp only [List.mem_cons, List.not_mem_nil, or_false] at hu
    rcases hu with rfl | rfl | rfl | rfl <;> rfl
  case c2 => unfold maxLen; omega
  case c3 => omega
  intro v6 w6 q1 q2 q3
  obtain ⟨g6, o6, c6, rfl⟩ : ∃ g6 o6 c6, v6 = .slice (some ⟨g6, o6, none⟩) (n + 1) c6 := by
    obtain ⟨-, ⟨-, hz⟩ | ⟨g6, o6, c6, hv, -⟩⟩ := q1
    · omega
    · exact ⟨g6, o6, c6, hv⟩
  have P6 : Hid (Vec 4 w6 (.slice (some ⟨g6, o6, none⟩) (n + 1) c6) (n + 1) (l2.flatMap pcV) ∧ Nw w w6 ∧ w.heap.size ≤ g6) := Lib.hid (by
    refine ⟨?_, (N2.out.trans NA.out).trans' q2 (fun k hk hc => by have := F1.out k hc; omega), ?_⟩
    · rw [← HL2.out, List.flatMap_append]; exact q1
    · rcases q3 with h | h
      · exact F1.out g6 (by have h' : some g6 = (Value.slice xa n xc).ownBlock := h; exact h'.symm)
      · have h1 := h g6 rfl
        have h2 := N2.out.size
        omega)
  clear q1 q2 q3 V2 SL N2 NA N1 F1 a1 a2 a3 a4 a5
  have HN2 : Hid (l2.length = n + 1) := Lib.hid (by rw [← HL2.out, List.length_append, HN.out]; rfl)
  have PC6 : Hid (Pcs w6 (.slice (some ⟨g6, o6, none⟩) (n + 1) c6) l2) := Lib.hid ⟨by rw [HN2.out]; exact P6.out.1.src, fun x hx => by
    rw [← HL2.out] at hx
    rcases List.mem_append.1 hx with hx | hx
    · exact HV.out.ok x hx
    · rw [List.mem_singleton.1 hx]; exact HQ.out⟩
  clear HV
  go_wp2_with fail
  refine (Right_ok PC6.out).mono ?_
  rintro e w7 ⟨rfl, n7⟩
  have N7 := Lib.hid (P6.out.2.1.trans n7)
  have PC7 := Lib.hid (PC6.out.nw n7)
  have V7 := Lib.hid (P6.out.1.nw n7)
  have H7 := Lib.hid (H.out.nw N7.out)
  clear n7 PC6
  cases hrt : rightL l2
  case false =>
    have E := Lib.hid (E1.out hrt)
    go_wp2
    go_ret
    rw [E.out]
    exact ⟨rfl, ⟨g, o, cap, H7.out⟩, N7.out.kept⟩
  obtain ⟨c0, -⟩ := H7.out.mem.cells
  have hp7 := lt_of_block H7.out.mem.blk
  obtain ⟨Y, hY⟩ : ∃ Y : Nat → Prop, Y = fun k => (X k ∨ k = p ∨ k = g) ∨ w.heap.size ≤ k ∧ k < w7.heap.size := ⟨_, rfl⟩
  have D8 : Hid (HasX Y w0 w7 b d) := Lib.hid (H.out.disk.nwY N7.out (fun k hk => by rw [hY] at hk; exact hk))
  have HY := Lib.hid hY
  clear hY
  go_wp2_with fail
  refine (Install_ok D8.out PC7.out).mono ?_
  rintro e w9 ⟨rfl, q1, q2⟩
  have hr3 : d.install l2 = r := HR.out
  rw [hr3] at q1 ⊢
  have D9 := Lib.hid q1
  have K9 := Lib.hid q2
  have H9 := Lib.hid ((H7.out).disk' (q1.weak fun k hk => by rw [HY.out]; exact .inl hk) (q2.weak fun k hk => by rw [HY.out]; exact .inl hk))
  have KX9 : Hid (Kept X w w9) := Lib.hid (N7.out.kept.trans (q2.weak fun k hk => by rw [HY.out]; exact .inl (.inl hk)))
  clear q1 q2 hr3 c0
  by_cases hx3 : r.2 = 0
  case neg =>
    have E := Lib.hid (E2.out hrt hx3)
    have hbq : (r.2 != 0) = true := by simpa using hx3
    have ht : decide (r.2 ≠ 0) = true := by simpa using hx3
    have CE := Lib.hid (lends_ok H9.out r.2)
    rw [ht] at CE
    go_wp2_with fail
    refine CE.out.mono ?_
    rintro e w10 ⟨rfl, h10, k10⟩
    go_wp2
    go_ret
    rw [E.out]
    exact ⟨rfl, h10, KX9.out.trans k10⟩
  have E := Lib.hid (E3.out hrt hx3)
  have hbq : (r.2 != 0) = false := by simpa using hx3
  clear hx3
  obtain ⟨-, -, z2, -, -, -, -, zf⟩ := H9.out.mem.cells
  have zf2 := zf 2
  have hp9 := lt_of_block H9.out.mem.blk
  clear zf
  go_wp2
  go_ret
  rw [E.out]
  have hb1 := heap_setCell_at H9.out.mem.blk 2 (.slice (some ⟨g6, o6, none⟩) (n + 1) c6)
  have hon : Only (fun k => k = p) w9 (w9.setCell ⟨p, 2, none⟩ (.slice (some ⟨g6, o6, none⟩) (n + 1) c6)) :=
    Only.setCell (S := fun k => k = p) (p := ⟨p, 2, none⟩) (Only.refl w9) (fun _ => rfl) _
  have hgY : Y g6 := by rw [HY.out]; exact .inr ⟨P6.out.2.2, V7.out.lt g6 rfl⟩
  have hpY : Y p := by rw [HY.out]; exact .inl (.inr (.inl rfl))
  have hgp : g6 ≠ p := by have := lt_of_block H.out.mem.blk; have := P6.out.2.2; omega
  have hw40 := H.out.disk.base.size
  refine ⟨rfl, ⟨g6, o6, c6, ⟨⟨?_, ?_, ?_⟩, ?_, H.out.p0, H.out.p1, by have := P6.out.2.2; omega, hgp, fun hx => by have := H.out.disk.lt _ (.inl hx); have := P6.out.2.2; omega⟩⟩, KX9.out.trans ⟨hon.size, fun k hk hlt => hon.block k hlt (fun e => H.out.p1 (e ▸ hk))⟩⟩
  · rw [hb1]
    simp only [HN2.out]
    rfl
  · have hpc := PC7.out
    refine ⟨?_, hpc.ok⟩
    have hs := hpc.src
    simp only [HN2.out] at hs ⊢
    obtain ⟨e, ⟨a, hv, hz⟩ | ⟨g', o', cap', hv, h1, h2, h3, h4⟩⟩ := hs
    · cases hv
    · injection hv with ea eb ec
      injection ea with ea
      injection ea with e1 e2
      subst e1 e2 ec
      exact ⟨e, .inr ⟨g6, o6, c6, rfl, h1, h2, Nat.lt_of_lt_of_le (Nat.lt_of_lt_of_le h3 K9.out.1) hon.size, fun j hj => hon.cell (K9.out.cell (h4 j hj) hgY) hgp⟩⟩
  · intro hnil
    have := HN2.out
    rw [show l2 = [] from hnil] at this
    simp at this
  · exact D9.out.put hon (fun k hk _ => by subst hk; exact ⟨hpY, H.out.p0⟩) (fun k hk => by
      rcases hk with hk | rfl | rfl
      · exact .inl (by rw [HY.out]; exact .inl (.inl hk))
      · exact .inl hpY
      · exact .inl hgY)
end
end Go.Proofs.YtkbenkldfehhlaaGreatDoor
