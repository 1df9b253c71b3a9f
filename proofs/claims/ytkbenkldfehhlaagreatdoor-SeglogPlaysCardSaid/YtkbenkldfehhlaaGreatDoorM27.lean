/-
  Texts merged by a program of this claim's: DocZ.
-/
import Derived.Test.YtkbenkldfehhlaaGreatDoorM23
import Derived.Deep.DeepCutAuto
namespace Go.Proofs.YtkbenkldfehhlaaGreatDoor
open Go Go.RowKit Go.Sort
set_option maxRecDepth 100000
set_option maxHeartbeats 3200000
theorem sizePcD (W : World) : (sizeOf (Tryz.prog.elem 32)).run Tryz.prog W = .ok 4 W := by kernel_rfl
theorem elemPcD : Tryz.prog.underlying 32 = some (.slice (Tryz.prog.elem 32)) := by kernel_rfl
theorem pcs_hD {g o n cap : Nat} (h1 : n ≤ cap) (h2 : cap ≤ maxLen) (hc : cap ≠ 0) (j : Nat) (hj : j ≤ n) (W : World) :
    (Instr.slice 32 (.slice (some ⟨g, o, none⟩) n cap) none (some (.int .i64 j)) none).run Tryz.prog W = .ok (.slice (some ⟨g, o, none⟩) j cap) W := by
  rw [run_slice_h W 32 (some ⟨g, o, none⟩) n cap elemPcD .i64 j (by omega) (by omega), sizePcD]
  simp [Result.andThen, Int.toNat_natCast, sliced, hc, addr_add]
theorem flat_take4 (l : List Pc) (k : Nat) : (l.take k).flatMap pcV = (l.flatMap pcV).take (k * 4) := by
  induction l generalizing k with
  | nil => simp
  | cons q l ih =>
    cases k with
    | zero => simp
    | succ k =>
      have e : (k + 1) * 4 = (pcV q).length + k * 4 := by
        have : (pcV q).length = 4 := rfl
        omega
      rw [List.take_succ_cons, List.flatMap_cons, List.flatMap_cons, ih, e, List.take_length_add_append]
theorem pcs_begin {w : World} {l : List Pc} {g o pc k : Nat} (h : Pcs w (.slice (some ⟨g, o, none⟩) l.length pc) l) (hk : k ≤ l.length) : SrcV 4 w (.slice (some ⟨g, o, none⟩) k pc) k ((l.take k).flatMap pcV) := by
  obtain ⟨h0, ⟨b, e, -⟩ | ⟨g', o', c', e, h1, h2, h3, h4⟩⟩ := h.src
  · injection e with e1 e2 e3
    have hz : k = 0 := by omega
    have hl : l = [] := List.eq_nil_of_length_eq_zero e2
    subst hz
    refine ⟨by simp, .inl ⟨_, by rw [e3], rfl⟩⟩
  · injection e with e1 e2 e3
    injection e1 with e1
    injection e1 with e1 e4
    subst e1 e4 e3
    have hfl : (l.flatMap pcV).length = l.length * 4 := flat_len4 l
    refine ⟨by rw [flat_take4, List.length_take, hfl]; omega, .inr ⟨g, o, pc, rfl, by omega, h2, h3, fun j hj => ?_⟩⟩
    rw [flat_take4, List.length_take] at hj
    have := h4 j (by omega)
    rw [this]
    congr 1
    simp only [flat_take4, List.getElem_take]
section
variable {X Y : Nat → Prop} {d0 d' : Dsk} {v lv : Value} {w wk w' : World} {L0 L' : Lg}
theorem dAnother_ok (h : RD X w v d0) (hl : LogV X w lv L0) (hne : L0.l ≠ []) (hX : ∀ k, w.heap.size ≤ k → X k) (hn : L0.n ≤ 4611686018427387904) (hf : 0 ≤ (lastP L0.l).first) (hlen : L0.l.length ≤ 100) :
    Calls Tryz.prog 77 #[lv, v] w (RDL X w (L0.another d0).d (L0.another d0).L (L0.another d0).e) := by
  have HN := Lib.hid hn
  have HF := Lib.hid hf
  have HLEN := Lib.hid hlen
  have HNE := Lib.hid hne
  clear hn hf hlen
  obtain ⟨m0, a0, n0, c0, la0, dn0, rfl⟩ := h.parts
  obtain ⟨pa0, pc0, rfl, hp, ho⟩ := hl
  have S0 := Lib.hid (Sl.new hne h hp ho)
  have HX := Lib.hid hX
  clear h hX hp ho
  obtain ⟨R, hR⟩ : ∃ r, L0.another d0 = r := ⟨_, rfl⟩
  have HR := Lib.hid hR
  rw [hR]
  clear hR
  obtain ⟨w0, hw0⟩ : ∃ x, (((w.alloc (logB L0 pa0 pc0)).alloc (DB (.int .i64 m0) (.slice a0 n0 c0) (.int .i64 la0) (.bool dn0))).alloc (DB (.int .i64 0) (.slice none 0 0) (.int .i64 0) (.bool false))).alloc (LB (.int .i64 0) (.slice none 0 0) (.int .i64 0) (.int .i64 0) (.int .i64 0) (.bool false)) = x := ⟨_, rfl⟩
  have hkk := (four_boxes w (logB L0 pa0 pc0) (DB (.int .i64 m0) (.slice a0 n0 c0) (.int .i64 la0) (.bool dn0)) (DB (.int .i64 0) (.slice none 0 0) (.int .i64 0) (.bool false)) (LB (.int .i64 0) (.slice none 0 0) (.int .i64 0) (.int .i64 0) (.int .i64 0) (.bool false))).2.2.2.2.2
  rw [hw0] at S0 hkk
  unfold logB LB DB at hw0
  go_enter Tryz.func77, Tryz.ntmps77
  go_upto_region 1 with fail
  clear hw0
  generalize w.heap.size + 4 = K at S0 hkk
  have HK0 := Lib.hid hkk
  clear hkk
  generalize w.heap.size + 1 + 1 + 1 = rl at S0 ⊢
  generalize w.heap.size + 1 + 1 = rd at S0 ⊢
  generalize w.heap.size + 1 = pd at S0 ⊢
  generalize w.heap.size = pl at S0 ⊢
  clear hne
  by_cases h100 : 100 ≤ L0.l.length
  case pos =>
    have y1 : decide ((100 : Int) ≤ (L0.l.length : Int)) = true := by simp; omega
    obtain ⟨⟨q0, q1, q2, q3, q4, q5⟩, h0, h1, h2, h3, h4, h5⟩ := lb_cells S0.out.bl
    obtain ⟨b0, b1, b2, b3, k0, k1, k2, k3⟩ := box_cells S0.out.bd
    go_upto_region 2 with fail
    clear q0 q1 q2 q3 q4 q5 h0 h1 h2 h3 h4 h5 b0 b1 b2 b3 k0 k1 k2 k3
    have HE : Hid (R = ⟨d0, L0, 5⟩) := Lib.hid (by rw [← HR.out]; unfold Lg.another; rw [if_pos h100])
    obtain ⟨⟨q0, q1, q2, q3, q4, q5⟩, -⟩ := lb_cells S0.out.bl
    obtain ⟨b0, b1, b2, b3, -⟩ := box_cells S0.out.bd
    obtain ⟨u0, u1, u2, u3, hr⟩ := S0.out.brd
    obtain ⟨v0, v1, v2, v3, v4, v5, hq⟩ := S0.out.brl
    obtain ⟨r0, r1, r2, r3, f0, f1, f2, f3⟩ := box_cells hr
    obtain ⟨⟨s0, s1, s2, s3, s4, s5⟩, g0, g1, g2, g3, g4, g5⟩ := lb_cells hq
    obtain ⟨e1, e2, e3, e4, e5, e6⟩ := S0.out.ne
    clear hr hq
    go_region_with fail
    all_goals
      go_wp2
      obtain ⟨w9, hw9, D9, V9, N9, BD9, BL9⟩ := S0.out.fin HX.out
      rw [hw9]
      have ND := (Nw.refl w9).drew
      obtain ⟨e0, e1, e2, e3, -⟩ := box_cells BD9
      obtain ⟨⟨j0, j1, j2, j3, j4, j5⟩, -⟩ := lb_cells BL9
      obtain ⟨k0, k1, k2, k3, -⟩ := box_cells (ND.at_ BD9)
      obtain ⟨⟨i0, i1, i2, i3, i4, i5⟩, -⟩ := lb_cells (ND.at_ BL9)
      refine bodyPost_ret (v := .tuple #[.agg #[.int .i64 m0, .slice a0 n0 c0, .int .i64 la0, .bool dn0], .agg #[.int .i64 L0.size, .slice pa0 L0.l.length pc0, .int .i64 L0.n, .int .i64 L0.acked, .int .i64 L0.bytes, .bool L0.over], .int .i64 5]) (by simp [results, Tryz.results77, go_sem, e0, e1, e2, e3, j0, j1, j2, j3, j4, j5, k0, k1, k2, k3, i0, i1, i2, i3, i4, i5]) rfl ?_
      rw [HE.out]
      first
        | exact ⟨m0, a0, n0, c0, la0, dn0, pa0, pc0, rfl, D9, V9, N9⟩
        | exact ⟨m0, a0, n0, c0, la0, dn0, pa0, pc0, rfl, D9.nw ND, V9.nw ND, N9.trans ND⟩
  have y1 : decide ((100 : Int) ≤ (L0.l.length : Int)) = false := by simp; omega
  have H100 := Lib.hid h100
  obtain ⟨g, o, hpa, hg, ⟨hl0, hl1, hl2⟩, l0, l1, l2, l3, hnl, hin⟩ := pcs_lastAt S0.out.pcs HNE.out
  subst hpa
  obtain ⟨nm, hnm⟩ : ∃ y, (lastP L0.l).name = y := ⟨_, rfl⟩
  obtain ⟨fi, hfi⟩ : ∃ y, (lastP L0.l).first = y := ⟨_, rfl⟩
  obtain ⟨ct, hct⟩ : ∃ y, (lastP L0.l).count = y := ⟨_, rfl⟩
  obtain ⟨de, hde⟩ : ∃ y, (lastP L0.l).dense = y := ⟨_, rfl⟩
  have HLAST : Hid (lastP L0.l = ⟨nm, fi, ct, de⟩) := Lib.hid (by rw [← hnm, ← hfi, ← hct, ← hde])
  rw [hnm] at l0 hnl
  rw [hfi] at l1 hin
  rw [hct] at l2
  rw [hde] at l3
  have HNL := Lib.hid hnl
  have HIN := Lib.hid hin
  have hj : IntKind.i64.wrap ((L0.l.length : Int) - 1) = ((L0.l.length - 1 : Nat) : Int) := by rw [show ((L0.l.length : Int) - 1) = ((L0.l.length - 1 : Nat) : Int) by omega]; exact IntWalk.i64_in _ (by omega)
  have hk0 : (0 : Int) ≤ ((L0.l.length - 1 : Nat) : Int) := by omega
  have hk1 : ((L0.l.length - 1 : Nat) : Int) < (L0.l.length : Int) := by omega
  have HLA := Lib.hid hl1
  have HLB := Lib.hid hl2
  have HLC := Lib.hid hl0
  clear hnm hfi hct hde hnl hin h100
  obtain ⟨⟨q0, q1, q2, q3, q4, q5⟩, h0, h1, h2, h3, h4, h5⟩ := lb_cells S0.out.bl
  obtain ⟨b0, b1, b2, b3, k0, k1, k2, k3⟩ := box_cells S0.out.bd
  go_upto_region 4 with fail
  clear q0 q1 q2 q3 q4 q5 h0 h1 h2 h3 h4 h5 b0 b1 b2 b3 k0 k1 k2 k3 l0 l1 l2 l3 hj hk0 hk1 hl1 hl2 hl0 hg
  have NA := Lib.hid ((Nw.refl w0).alloc (.cells #[.string ⟨nm.toArray⟩, .int .i64 fi, .int .i64 ct, .bool de] 98 (0, 0)))
  have B7 := Lib.hid (heap_alloc_new w0 (.cells #[.string ⟨nm.toArray⟩, .int .i64 fi, .int .i64 ct, .bool de] 98 (0, 0)))
  have P7 : Hid (w0.heap.size = K) := HK0
  (try rw [show (Obj.cells #[.string ⟨nm.toArray⟩, .int .i64 fi, .int .i64 ct, .bool de] 98) = (.cells #[.string ⟨nm.toArray⟩, .int .i64 fi, .int .i64 ct, .bool de] 98 (0, 0)) from rfl])
  have hup := S0.out.up HK0.out HNE.out (.cells #[.string ⟨nm.toArray⟩, .int .i64 fi, .int .i64 ct, .bool de] 98 (0, 0))
  obtain ⟨wa, hwa⟩ : ∃ x, w0.alloc (.cells #[.string ⟨nm.toArray⟩, .int .i64 fi, .int .i64 ct, .bool de] 98 (0, 0)) = x := ⟨_, rfl⟩
  rw [hwa] at NA B7 hup ⊢
  have T0 := Lib.hid hup
  clear hwa hup
  generalize w0.heap.size = p7 at B7 P7 ⊢
  obtain ⟨d1, x1, hr1⟩ : ∃ d1 x1, d0.sync nm = (d1, x1) := ⟨_, _, rfl⟩
  have HR1 := Lib.hid hr1
  clear hr1
  have c7 : wa.cell? ⟨p7, 0, none⟩ = some (.string ⟨nm.toArray⟩) := by have := B7.out; simp [World.cell?, this]
  obtain ⟨⟨q0, q1, q2, q3, q4, q5⟩, h0, h1, h2, h3, h4, h5⟩ := lb_cells T0.out.bl
  obtain ⟨b0, b1, b2, b3, k0, k1, k2, k3⟩ := box_cells T0.out.bd
  have R1 := Lib.hid (T0.out.rdk.sync T0.out.fresh HR1.out)
  go_wp2_with fail
  refine R1.out.mono ?_
  rintro e y1 ⟨m1, a1, n1, c1, la1, dn1, rfl, dd, nn⟩
  obtain ⟨w1, hw1, s1, o1⟩ := T0.out.step dd nn
  have S1 := Lib.hid s1
  have B7 := Lib.hid (o1.at_ (nn.at_ B7.out) (by have := P7.out; have := S0.out.hi; omega))
  have NN1 := Lib.hid nn
  have O1 := Lib.hid o1
  clear R1 s1 o1 q0 q1 q2 q3 q4 q5 h0 h1 h2 h3 h4 h5 b0 b1 b2 b3 k0 k1 k2 k3
  have TY := Lib.hid (T0.out.on nn)
  clear dd nn
  obtain ⟨⟨q0, q1, q2, q3, q4, q5⟩, h0, h1, h2, h3, h4, h5⟩ := lb_cells TY.out.bl
  obtain ⟨b0, b1, b2, b3, k0, k1, k2, k3⟩ := box_cells TY.out.bd
  clear c7
  go_upto_if 33 with fail
  (try rw [hw1])
  clear hw1 q0 q1 q2 q3 q4 q5 h0 h1 h2 h3 h4 h5 b0 b1 b2 b3 k0 k1 k2 k3 TY
  by_cases hx1 : x1 = 0
  case neg =>
    have y2 : (x1 != 0) = true := by simpa using hx1
    have HX1 := Lib.hid hx1
    clear hx1
    go_upto_region 6 with fail
    have HE : Hid (R = ⟨d1, L0, x1⟩) := Lib.hid (by rw [← HR.out]; unfold Lg.another; rw [if_neg H100.out, HLAST.out]; simp only [HR1.out]; rw [if_pos HX1.out])
    obtain ⟨⟨q0, q1, q2, q3, q4, q5⟩, -⟩ := lb_cells S1.out.bl
    obtain ⟨b0, b1, b2, b3, -⟩ := box_cells S1.out.bd
    obtain ⟨u0, u1, u2, u3, hr⟩ := S1.out.brd
    obtain ⟨v0, v1, v2, v3, v4, v5, hq⟩ := S1.out.brl
    obtain ⟨r0, r1, r2, r3, f0, f1, f2, f3⟩ := box_cells hr
    obtain ⟨⟨s0, s1, s2, s3, s4, s5⟩, g0, g1, g2, g3, g4, g5⟩ := lb_cells hq
    obtain ⟨e1, e2, e3, e4, e5, e6⟩ := S1.out.ne
    clear hr hq
    go_region_with fail
    all_goals
      go_wp2
      obtain ⟨w9, hw9, D9, V9, N9, BD9, BL9⟩ := S1.out.fin HX.out
      rw [hw9]
      have ND := (Nw.refl w9).drew
      obtain ⟨e0, e1, e2, e3, -⟩ := box_cells BD9
      obtain ⟨⟨j0, j1, j2, j3, j4, j5⟩, -⟩ := lb_cells BL9
      obtain ⟨k0, k1, k2, k3, -⟩ := box_cells (ND.at_ BD9)
      obtain ⟨⟨i0, i1, i2, i3, i4, i5⟩, -⟩ := lb_cells (ND.at_ BL9)
      refine bodyPost_ret (v := .tuple #[.agg #[.int .i64 m1, .slice a1 n1 c1, .int .i64 la1, .bool dn1], .agg #[.int .i64 L0.size, .slice (some ⟨g, o, none⟩) L0.l.length pc0, .int .i64 L0.n, .int .i64 L0.acked, .int .i64 L0.bytes, .bool L0.over], .int .i64 x1]) (by simp [results, Tryz.results77, go_sem, e0, e1, e2, e3, j0, j1, j2, j3, j4, j5, k0, k1, k2, k3, i0, i1, i2, i3, i4, i5]) rfl ?_
      rw [HE.out]
      first
        | exact ⟨m1, a1, n1, c1, la1, dn1, (some ⟨g, o, none⟩), pc0, rfl, D9, V9, N9⟩
        | exact ⟨m1, a1, n1, c1, la1, dn1, (some ⟨g, o, none⟩), pc0, rfl, D9.nw ND, V9.nw ND, N9.trans ND⟩
  subst hx1
  obtain ⟨⟨q0, q1, q2, q3, q4, q5⟩, h0, h1, h2, h3, h4, h5⟩ := lb_cells S1.out.bl
  obtain ⟨b0, b1, b2, b3, k0, k1, k2, k3⟩ := box_cells S1.out.bd
  go_upto_region 7 with fail
  obtain ⟨L1, hL1⟩ : ∃ y : Lg, y = ⟨L0.size, L0.l, L0.n, L0.n, L0.bytes, L0.over⟩ := ⟨_, rfl⟩
  obtain ⟨w2, hw2⟩ : ∃ y, w1.setCell ⟨pl, 3, none⟩ (.int .i64 L0.n) = y := ⟨_, rfl⟩
  have S2 := Lib.hid (hw2 ▸ S1.out.field (L' := L1) 3 (.int .i64 L0.n) (by rw [hL1]) (by have := heap_setCell_at S1.out.bl 3 (.int .i64 L0.n); rw [hL1]; simpa [logB, LB] using this))
  have HLG1 := Lib.hid hL1
  have B7 := Lib.hid (hw2 ▸ (Only.setCell (S := fun k => k = pl) (Only.refl w1) (fun _ => rfl) (.int .i64 L0.n)).at_ B7.out (by have := P7.out; have := S0.out.hi; omega))
  go_upto_region 8 with fail
  (try rw [hw2])
  clear hw2 q0 q1 q2 q3 q4 q5 h0 h1 h2 h3 h4 h5 b0 b1 b2 b3 k0 k1 k2 k3 hL1
  have hn1 : L1.n = L0.n := by rw [HLG1.out]
  obtain ⟨d2, x2, hr2⟩ : ∃ d2 x2, d1.begun L0.n = (d2, x2) := ⟨_, _, rfl⟩
  have HR2 := Lib.hid hr2
  clear hr2
  obtain ⟨⟨q0, q1, q2, q3, q4, q5⟩, h0, h1, h2, h3, h4, h5⟩ := lb_cells S2.out.bl
  obtain ⟨b0, b1, b2, b3, k0, k1, k2, k3⟩ := box_cells S2.out.bd
  rw [hn1] at q2
  clear hn1
  have R1 := Lib.hid (dBegin_ok S2.out.rdk S2.out.fresh HN.out HR2.out)
  obtain ⟨hb, hhb⟩ : ∃ y, (headB L0.n).length = y := ⟨_, rfl⟩
  rw [hhb] at R1
  have HHB := Lib.hid hhb
  clear hhb
  go_wp2_with fail
  refine R1.out.mono ?_
  rintro e y3 ⟨m2, a2, n2, c2, la2, dn2, rfl, dd, nn⟩
  obtain ⟨w3, hw3, s3, o3⟩ := S2.out.step dd nn
  have S3 := Lib.hid s3
  have B7 := Lib.hid (o3.at_ (nn.at_ B7.out) (by have := P7.out; have := S0.out.hi; omega))
  clear R1 s3 o3 q0 q1 q2 q3 q4 q5 h0 h1 h2 h3 h4 h5 b0 b1 b2 b3 k0 k1 k2 k3
  have TY := Lib.hid (S2.out.on nn)
  clear dd nn
  obtain ⟨b0, b1, b2, b3, k0, k1, k2, k3⟩ := box_cells TY.out.bd
  go_upto_if 49 with fail
  (try rw [hw3])
  clear hw3 b0 b1 b2 b3 k0 k1 k2 k3 TY
  by_cases hx2 : x2 = 0
  case neg =>
    have y2 : (x2 != 0) = true := by simpa using hx2
    have HX2 := Lib.hid hx2
    clear hx2
    go_upto_region 10 with fail
    have HE : Hid (R = ⟨d2, L1, x2⟩) := Lib.hid (by rw [← HR.out]; unfold Lg.another; rw [if_neg H100.out, HLAST.out]; simp only [HR1.out, HR2.out]; rw [if_neg (by simp), if_pos HX2.out, HLG1.out])
    obtain ⟨⟨q0, q1, q2, q3, q4, q5⟩, -⟩ := lb_cells S3.out.bl
    obtain ⟨b0, b1, b2, b3, -⟩ := box_cells S3.out.bd
    obtain ⟨u0, u1, u2, u3, hr⟩ := S3.out.brd
    obtain ⟨v0, v1, v2, v3, v4, v5, hq⟩ := S3.out.brl
    obtain ⟨r0, r1, r2, r3, f0, f1, f2, f3⟩ := box_cells hr
    obtain ⟨⟨s0, s1, s2, s3, s4, s5⟩, g0, g1, g2, g3, g4, g5⟩ := lb_cells hq
    obtain ⟨e1, e2, e3, e4, e5, e6⟩ := S3.out.ne
    clear hr hq
    go_region_with fail
    all_goals
      go_wp2
      obtain ⟨w9, hw9, D9, V9, N9, BD9, BL9⟩ := S3.out.fin HX.out
      rw [hw9]
      have ND := (Nw.refl w9).drew
      obtain ⟨e0, e1, e2, e3, -⟩ := box_cells BD9
      obtain ⟨⟨j0, j1, j2, j3, j4, j5⟩, -⟩ := lb_cells BL9
      obtain ⟨k0, k1, k2, k3, -⟩ := box_cells (ND.at_ BD9)
      obtain ⟨⟨i0, i1, i2, i3, i4, i5⟩, -⟩ := lb_cells (ND.at_ BL9)
      refine bodyPost_ret (v := .tuple #[.agg #[.int .i64 m2, .slice a2 n2 c2, .int .i64 la2, .bool dn2], .agg #[.int .i64 L1.size, .slice (some ⟨g, o, none⟩) L1.l.length pc0, .int .i64 L1.n, .int .i64 L1.acked, .int .i64 L1.bytes, .bool L1.over], .int .i64 x2]) (by simp [results, Tryz.results77, go_sem, e0, e1, e2, e3, j0, j1, j2, j3, j4, j5, k0, k1, k2, k3, i0, i1, i2, i3, i4, i5]) rfl ?_
      rw [HE.out]
      first
        | exact ⟨m2, a2, n2, c2, la2, dn2, (some ⟨g, o, none⟩), pc0, rfl, D9, V9, N9⟩
        | exact ⟨m2, a2, n2, c2, la2, dn2, (some ⟨g, o, none⟩), pc0, rfl, D9.nw ND, V9.nw ND, N9.trans ND⟩
  subst hx2
  have hl9 : L1.l = L0.l := by rw [HLG1.out]
  have PB := S3.out.pcs
  rw [hl9] at PB
  have SB := Lib.hid (pcs_begin (k := L0.l.length - 1) PB (by omega))
  have VN := Lib.hid (Vec.nil (k := 4) (w := w3))
  clear PB
  obtain ⟨i0, hi, hz0, hz1, hz2⟩ := info_parts infoPc
  have HI := Lib.hid hi
  have HZ0 := Lib.hid hz0
  have HZ1 := Lib.hid hz1
  have HZ2 := Lib.hid hz2
  clear hi hz0 hz1 hz2
  have hsl : ∀ W, (Instr.slice 32 (.slice (some ⟨g, o, none⟩) L0.l.length pc0) none (some (.int .i64 ((L0.l.length - 1 : Nat) : Int))) none).run Tryz.prog W = .ok (.slice (some ⟨g, o, none⟩) (L0.l.length - 1) pc0) W := fun W => pcs_hD HLA.out (by have := HLB.out; unfold maxLen; omega) (by have := HLA.out; have := HLC.out; omega) _ (by omega) W
  have hj : IntKind.i64.wrap ((L0.l.length : Int) - 1) = ((L0.l.length - 1 : Nat) : Int) := by rw [show ((L0.l.length : Int) - 1) = ((L0.l.length - 1 : Nat) : Int) by have := HLC.out; omega]; exact IntWalk.i64_in _ (by have := HLEN.out; omega)
  obtain ⟨⟨q0, q1, q2, q3, q4, q5⟩, h0, h1, h2, h3, h4, h5⟩ := lb_cells S3.out.bl
  obtain ⟨b0, b1, b2, b3, k0, k1, k2, k3⟩ := box_cells S3.out.bd
  rw [hl9] at q1
  clear hl9
  go_upto_region 12 with fail
  go_wp2_with (at_builtin; refine wpList_append_vec rfl _ _ 32 rfl 98 i0 (.agg #[.string ⟨#[]⟩, .int .i64 0, .int .i64 0, .bool false]) 4 40 Tryz.underlying32 HI.out HZ0.out HZ1.out HZ2.out rfl (by decide) rfl rfl VN.out SB.out ?c1 ?c2 ?c3 ?_)
  case c1 => exact pcV_one _
  case c2 => have := HLEN.out; unfold maxLen; omega
  case c3 => have := HLEN.out; omega
  intro v4 w4 q6 q7 q8
  (try rw [Nat.zero_add] at q6)
  (try rw [List.nil_append] at q6)
  obtain ⟨xa, xc, rfl, -⟩ := q6.len
  have N4 : Hid (Nw w3 w4) := Lib.hid (q7.mono (fun k _ hk => by cases hk))
  have V4 : Hid (OV 4 w3.heap.size w4 (.slice xa (L0.l.length - 1) xc) (L0.l.length - 1) ((L0.l.take (L0.l.length - 1)).flatMap pcV)) := Lib.hid ⟨q6, fun k hk => by
    rcases q8 with h | h
    · rw [h] at hk; cases hk
    · exact h k hk⟩
  clear q6 q7 q8 VN SB hsl hj
  clear q0 q1 q2 q3 q4 q5 h0 h1 h2 h3 h4 h5 b0 b1 b2 b3 k0 k1 k2 k3
  have S4 := Lib.hid (S3.out.on N4.out)
  have B7 := Lib.hid (N4.out.at_ B7.out)
  have hn1 : L1.n = L0.n := by rw [HLG1.out]
  obtain ⟨⟨q0, q1, q2, q3, q4, q5⟩, h0, h1, h2, h3, h4, h5⟩ := lb_cells S4.out.bl
  obtain ⟨b0, b1, b2, b3, k0, k1, k2, k3⟩ := box_cells S4.out.bd
  rw [hn1] at q2
  clear hn1
  have c7 : w4.cell? ⟨p7, 1, none⟩ = some (.int .i64 fi) ∧ w4.cell? ⟨p7, 2, none⟩ = some (.int .i64 ct) ∧ w4.frozen? ⟨p7, 2, none⟩ = false := by have := B7.out; simp [World.cell?, World.frozen?, this]
  obtain ⟨c71, c72, c7f⟩ := c7
  have hsub : IntKind.i64.wrap ((L0.n : Int) - fi) = (L0.n : Int) - fi := IntWalk.i64_in _ (by have h1 := HIN.out; have h2 := HF.out; rw [HLAST.out] at h2; have := HN.out; unfold in64 at h1; simp only at h2; omega)
  have hb7 := heap_setCell_at B7.out 2 (.int .i64 ((L0.n : Int) - fi))
  have ho7 : Only (fun k => k = p7) w4 (w4.setCell ⟨p7, 2, none⟩ (.int .i64 ((L0.n : Int) - fi))) := Only.setCell (S := fun k => k = p7) (Only.refl w4) (fun _ => rfl) _
  obtain ⟨w5, hw5⟩ : ∃ y, w4.setCell ⟨p7, 2, none⟩ (.int .i64 ((L0.n : Int) - fi)) = y := ⟨_, rfl⟩
  rw [hw5] at hb7 ho7
  have B7 : Hid (w5.heap[p7]? = some (.cells #[.string ⟨nm.toArray⟩, .int .i64 fi, .int .i64 ((L0.n : Int) - fi), .bool de] 98 (0, 0))) := Lib.hid (by simpa using hb7)
  have O7 := Lib.hid ho7
  clear hb7 ho7
  go_upto_region 14 with fail
  (try rw [hw5])
  clear hw5 hsub c71 c72 c7f
  clear q0 q1 q2 q3 q4 q5 h0 h1 h2 h3 h4 h5 b0 b1 b2 b3 k0 k1 k2 k3
  have S5 := Lib.hid (S4.out.aside O7.out (fun k hk => by subst hk; have := P7.out; have := S0.out.hi; have := S0.out.lo; omega))
  have V5 := Lib.hid (V4.out.put O7.out (fun k hk => by subst hk; have := P7.out; have := S3.out.kk; omega))
  have hn1 : L1.n = L0.n := by rw [HLG1.out]
  obtain ⟨⟨q0, q1, q2, q3, q4, q5⟩, h0, h1, h2, h3, h4, h5⟩ := lb_cells S5.out.bl
  obtain ⟨b0, b1, b2, b3, k0, k1, k2, k3⟩ := box_cells S5.out.bd
  rw [hn1] at q2
  clear hn1 h0 h1 h2 h3 h4 h5 b0 b1 b2 b3 k0 k1 k2 k3
  have hc7 : w5.cell? ⟨p7, 0, none⟩ = some (.string ⟨nm.toArray⟩) ∧ w5.cell? ⟨p7, 1, none⟩ = some (.int .i64 fi) ∧ w5.cell? ⟨p7, 2, none⟩ = some (.int .i64 ((L0.n : Int) - fi)) ∧ w5.cell? ⟨p7, 3, none⟩ = some (.bool de) := by have := B7.out; simp [World.cell?, this]
  obtain ⟨c70, c71, c72, c73⟩ := hc7
  have HSL := Lib.hid (segName_len L0.n HN.out)
  have hsn : (⟨#[115]⟩ ++ ⟨(Lib.decDigits L0.n).toArray⟩ : ByteArray) = ⟨(segName L0.n).toArray⟩ := ByteArray.mk_append_mk [115] (Lib.decDigits L0.n)
  have DK := Lib.hid (fun W => dDec_ok W L0.n (by have := HN.out; omega))
  obtain ⟨dg, hdg⟩ : ∃ y, Lib.decDigits L0.n = y := ⟨_, rfl⟩
  have HDG := Lib.hid hdg
  rw [hdg] at hsn DK
  obtain ⟨sn, hsn2⟩ : ∃ y, segName L0.n = y := ⟨_, rfl⟩
  rw [hsn2] at hsn HSL
  have HSN := Lib.hid hsn2
  have hdl : dg.length ≤ 99 := by have h1 := HSL.out; have h2 := HSN.out; unfold segName at h2; rw [← h2, List.length_cons, HDG.out] at h1; omega
  clear hdg hsn2
  obtain ⟨L2, hL2⟩ : ∃ y : Lg, y = ⟨L1.size, morePcs L0, L1.n, L1.acked, L1.bytes, L1.over⟩ := ⟨_, rfl⟩
  have HLG2 := Lib.hid hL2
  have hml : L0.l.length - 1 + 2 = L2.l.length := by have := more_len HNE.out; have := HLC.out; rw [hL2]; simp only; omega
  have HML := Lib.hid hml
  have hmf : (L0.l.take (L0.l.length - 1)).flatMap pcV ++ [.string ⟨nm.toArray⟩, .int .i64 fi, .int .i64 ((L0.n : Int) - fi), .bool de, .string ⟨sn.toArray⟩, .int .i64 L0.n, .int .i64 0, .bool false] = L2.l.flatMap pcV := by
    rw [hL2]
    simp only [morePcs, HLAST.out, List.dropLast_eq_take, List.flatMap_append, List.flatMap_cons, List.flatMap_nil, pcV, HSN.out, List.append_nil]
    rfl
  have HMF := Lib.hid hmf
  have hmo : ∀ q ∈ L2.l, q.Ok := by
    rw [hL2]
    have hok := S5.out.pcs.ok
    rw [show L1.l = L0.l by rw [HLG1.out]] at hok
    exact more_ok hok HNE.out HN.out HF.out
  have HMO := Lib.hid hmo
  have hc1 : ∀ u ∈ ([.string ⟨nm.toArray⟩, .int .i64 fi, .int .i64 ((L0.n : Int) - fi), .bool de, .string ⟨sn.toArray⟩, .int .i64 L0.n, .int .i64 0, .bool false] : List Value), u.oneCell' = true := by
    intro u hu
    simp only [List.mem_cons, List.not_mem_nil, or_false] at hu
    rcases hu with rfl | rfl | rfl | rfl | rfl | rfl | rfl | rfl <;> rfl
  have hc2 : L0.l.length - 1 + 2 ≤ maxLen := by have := HLEN.out; unfold maxLen; omega
  have hc3 : (L0.l.length - 1 + 2) * 40 ≤ 140737488355328 := by have := HLEN.out; omega
  have HC1 := Lib.hid hc1
  have HC2 := Lib.hid hc2
  have HC3 := Lib.hid hc3
  clear hL2 hml hmf hmo hc1 hc2 hc3
  have ND5 := Lib.hid ((Nw.refl w5).drew)
  have hcc : w5.drew.cell? ⟨pl, 2, none⟩ = some (.int .i64 L0.n) ∧ w5.drew.cell? ⟨p7, 0, none⟩ = some (.string ⟨nm.toArray⟩) ∧ w5.drew.cell? ⟨p7, 1, none⟩ = some (.int .i64 fi) ∧ w5.drew.cell? ⟨p7, 2, none⟩ = some (.int .i64 ((L0.n : Int) - fi)) ∧ w5.drew.cell? ⟨p7, 3, none⟩ = some (.bool de) := ⟨ND5.out.cell q2, ND5.out.cell c70, ND5.out.cell c71, ND5.out.cell c72, ND5.out.cell c73⟩
  have hdb : 1 + dg.length ≤ 9223372036854775807 := by omega
  refine wp_region_steps 11 [.rd 0, .rd 1, .rd 2, .rd 3, .rd 6, .rd 7, .dn 4, .rd 5, .rd 8, .dn 9, .dn 10] [11] (fun x => x.cell? ⟨pl, 2, none⟩ = some (.int .i64 L0.n) ∧ x.cell? ⟨p7, 0, none⟩ = some (.string ⟨nm.toArray⟩) ∧ x.cell? ⟨p7, 1, none⟩ = some (.int .i64 fi) ∧ x.cell? ⟨p7, 2, none⟩ = some (.int .i64 ((L0.n : Int) - fi)) ∧ x.cell? ⟨p7, 3, none⟩ = some (.bool de)) (by kernel_rfl) (by kernel_rfl) (fun _ _ _ _ _ h => h) hcc ?_
  have HCC := Lib.hid hcc
  clear hcc c70 c71 c72 c73 q0 q1 q2 q3 q4 q5
  refine stp_to (.slice xa (L0.l.length - 1) xc) rfl rfl (by kernel_rfl) (fun x hx => by go_simp) (fun K' hK => ?_); go_simp; refine hK _ ?_; clear hK K'
  refine stp_to (.agg #[.string ⟨nm.toArray⟩, .int .i64 fi, .int .i64 ((L0.n : Int) - fi), .bool de]) rfl rfl (by kernel_rfl) (fun x hx => by obtain ⟨e1, e2, e3, e4, e5⟩ := hx; go_simp) (fun K' hK => ?_); go_simp; refine hK _ ?_; clear hK K'
  refine stp_to (.pointer (some ⟨pl, 2, none⟩)) rfl rfl (by kernel_rfl) (fun x hx => by go_simp) (fun K' hK => ?_); go_simp; refine hK _ ?_; clear hK K'
  refine stp_to (.int .i64 L0.n) rfl rfl (by kernel_rfl) (fun x hx => by obtain ⟨e1, e2, e3, e4, e5⟩ := hx; go_simp) (fun K' hK => ?_); go_simp; refine hK _ ?_; clear hK K'
  refine stp_to (.pointer (some ⟨pl, 2, none⟩)) rfl rfl (by kernel_rfl) (fun x hx => by go_simp) (fun K' hK => ?_); go_simp; refine hK _ ?_; clear hK K'
  refine stp_to (.int .i64 L0.n) rfl rfl (by kernel_rfl) (fun x hx => by obtain ⟨e1, e2, e3, e4, e5⟩ := hx; go_simp) (fun K' hK => ?_); go_simp; refine hK _ ?_; clear hK K'
  refine stp_dn rfl (fun K' hK => ?_)
  go_wp2_with fail
  refine (DK.out _).mono ?_
  rintro e z1 ⟨rfl, rfl⟩
  go_wp2
  refine hK _ _ HCC.out ?_; clear hK K'
  refine stp_to (.string ⟨sn.toArray⟩) rfl rfl (by kernel_rfl) (fun x hx => by go_simp) (fun K' hK => ?_); go_simp; refine hK _ ?_; clear hK K'
  refine stp_to (.agg #[.string ⟨sn.toArray⟩, .int .i64 L0.n, .int .i64 0, .bool false]) rfl rfl (by kernel_rfl) (fun x hx => by go_simp) (fun K' hK => ?_); go_simp; refine hK _ ?_; clear hK K'
  clear hsn
  have hna := (Nw.refl w5.drew).alloc (.cells #[.string ⟨nm.toArray⟩, .int .i64 fi, .int .i64 ((L0.n : Int) - fi), .bool de, .string ⟨sn.toArray⟩, .int .i64 L0.n, .int .i64 0, .bool false] 98 (0, 0))
  have NA6 := Lib.hid hna
  have hcb : (w5.drew.alloc (.cells #[.string ⟨nm.toArray⟩, .int .i64 fi, .int .i64 ((L0.n : Int) - fi), .bool de, .string ⟨sn.toArray⟩, .int .i64 L0.n, .int .i64 0, .bool false] 98 (0, 0))).cell? ⟨pl, 2, none⟩ = some (.int .i64 L0.n) ∧ (w5.drew.alloc (.cells #[.string ⟨nm.toArray⟩, .int .i64 fi, .int .i64 ((L0.n : Int) - fi), .bool de, .string ⟨sn.toArray⟩, .int .i64 L0.n, .int .i64 0, .bool false] 98 (0, 0))).cell? ⟨p7, 0, none⟩ = some (.string ⟨nm.toArray⟩) ∧ (w5.drew.alloc (.cells #[.string ⟨nm.toArray⟩, .int .i64 fi, .int .i64 ((L0.n : Int) - fi), .bool de, .string ⟨sn.toArray⟩, .int .i64 L0.n, .int .i64 0, .bool false] 98 (0, 0))).cell? ⟨p7, 1, none⟩ = some (.int .i64 fi) ∧ (w5.drew.alloc (.cells #[.string ⟨nm.toArray⟩, .int .i64 fi, .int .i64 ((L0.n : Int) - fi), .bool de, .string ⟨sn.toArray⟩, .int .i64 L0.n, .int .i64 0, .bool false] 98 (0, 0))).cell? ⟨p7, 2, none⟩ = some (.int .i64 ((L0.n : Int) - fi)) ∧ (w5.drew.alloc (.cells #[.string ⟨nm.toArray⟩, .int .i64 fi, .int .i64 ((L0.n : Int) - fi), .bool de, .string ⟨sn.toArray⟩, .int .i64 L0.n, .int .i64 0, .bool false] 98 (0, 0))).cell? ⟨p7, 3, none⟩ = some (.bool de) := by
    obtain ⟨e1, e2, e3, e4, e5⟩ := HCC.out
    exact ⟨hna.cell e1, hna.cell e2, hna.cell e3, hna.cell e4, hna.cell e5⟩
  have HCB := Lib.hid hcb
  have VX := Lib.hid ((V5.out.nw ND5.out).nw hna)
  have SX := Lib.hid (src_lit w5.drew 98 (0, 0) 4 2 2 [.string ⟨nm.toArray⟩, .int .i64 fi, .int .i64 ((L0.n : Int) - fi), .bool de, .string ⟨sn.toArray⟩, .int .i64 L0.n, .int .i64 0, .bool false] rfl (by omega) (by decide))
  clear hna hcb
  refine stp_dn rfl (fun K' hK => ?_)
  go_wp2
  refine hK _ _ HCB.out ?_; clear hK K'
  refine stp_dn rfl (fun K' hK => ?_)
  at_builtin
  refine wpList_append_vec rfl _ _ 32 rfl 98 i0 (.agg #[.string ⟨#[]⟩, .int .i64 0, .int .i64 0, .bool false]) 4 40 Tryz.underlying32 HI.out HZ0.out HZ1.out HZ2.out rfl (by decide) rfl rfl VX.out.vec SX.out HC1.out HC2.out HC3.out ?_
  intro v6 w6 q6 q7 q8
  obtain ⟨xa6, xc6, rfl, -⟩ := q6.len
  rw [HMF.out, HML.out] at q6
  have ho6 : Only (fun k => k = p7) w3 w6 := by
    have e1 : Only (fun k => k = p7 ∨ w3.heap.size ≤ k) w3 w4 := N4.out.mono (fun k _ hk => hk.elim)
    have e2 : Only (fun k => k = p7 ∨ w3.heap.size ≤ k) w4 w5 := O7.out.mono (fun k _ hk => .inl hk)
    have e3 : Only (fun k => k = p7 ∨ w3.heap.size ≤ k) w5 _ := (ND5.out.trans NA6.out).mono (fun k _ hk => hk.elim)
    have e4 : Only (fun k => k = p7 ∨ w3.heap.size ≤ k) _ w6 := q7.mono (fun k _ hk => .inr (V4.out.off k hk))
    exact (((e1.trans e2).trans e3).trans e4).mono (fun k hl hk => by rcases hk with h | h; exact h; omega)
  have V6 : Hid (OV 4 w3.heap.size w6 (.slice xa6 L2.l.length xc6) L2.l.length (L2.l.flatMap pcV)) := Lib.hid ⟨q6, fun k hk => by
    have hk : (Value.slice xa6 (L0.l.length - 1 + 2) xc6).ownBlock = some k := by rw [← hk]; cases xa6 <;> rfl
    rcases q8 with h | h
    · exact V4.out.off k (h.symm.trans hk)
    · exact Nat.le_trans (Nat.le_trans N4.out.size (Nat.le_trans O7.out.size (ND5.out.trans NA6.out).size)) (h k hk)⟩
  have S6 := Lib.hid (S3.out.aside ho6 (fun k hk => by subst hk; have := P7.out; have := S0.out.hi; have := S0.out.lo; omega))
  have PC6 : Hid (Pcs w6 (.slice xa6 L2.l.length xc6) L2.l) := Lib.hid (V6.out.vec.pcs HMO.out)
  have hcw : w6.cell? ⟨pl, 2, none⟩ = some (.int .i64 L0.n) ∧ w6.cell? ⟨p7, 0, none⟩ = some (.string ⟨nm.toArray⟩) ∧ w6.cell? ⟨p7, 1, none⟩ = some (.int .i64 fi) ∧ w6.cell? ⟨p7, 2, none⟩ = some (.int .i64 ((L0.n : Int) - fi)) ∧ w6.cell? ⟨p7, 3, none⟩ = some (.bool de) := by
    obtain ⟨e1, e2, e3, e4, e5⟩ := HCB.out
    have hpl : ¬ (Value.slice xa (L0.l.length - 1) xc).ownBlock = some pl := fun h => by have := V4.out.off pl h; have := S3.out.hi; have := S3.out.kk; omega
    have hp7 : ¬ (Value.slice xa (L0.l.length - 1) xc).ownBlock = some p7 := fun h => by have := V4.out.off p7 h; have := P7.out; have := S3.out.kk; omega
    exact ⟨q7.cell e1 hpl, q7.cell e2 hp7, q7.cell e3 hp7, q7.cell e4 hp7, q7.cell e5 hp7⟩
  clear q6 q7 q8 ho6 V5 S5 ND5 NA6 VX SX N4 V4 O7 S4
  rw [HML.out]
  go_wp2
  refine hK _ _ hcw ?_; clear hK K'
  clear hcw
  refine wpSteps_nil ?_
  refine stp_do rfl (by decide) (fun K' hK => ?_)
  go_wp2
  (try (refine hK _ _ ?_; clear hK K'))
  refine wpNums_nil ?_
  clear HCC HCB
  obtain ⟨d3, x3, hr3⟩ : ∃ d3 x3, d2.install (morePcs L0) = (d3, x3) := ⟨_, _, rfl⟩
  have HR3 := Lib.hid hr3
  have hr3' : d2.install L2.l = (d3, x3) := by rw [HLG2.out]; exact hr3
  have R1 := Lib.hid (dInstall_ok S6.out.rdk S6.out.fresh PC6.out hr3')
  clear hr3 hr3'
  obtain ⟨⟨q0, q1, q2, q3, q4, q5⟩, h0, h1, h2, h3, h4, h5⟩ := lb_cells S6.out.bl
  obtain ⟨b0, b1, b2, b3, k0, k1, k2, k3⟩ := box_cells S6.out.bd
  go_upto_region 15 with fail
  go_wp2_with fail
  refine R1.out.mono ?_
  rintro e y7 ⟨m3, a3, n3, c3, la3, dn3, rfl, dd, nn⟩
  obtain ⟨w7, hw7, s7, o7⟩ := S6.out.step dd nn
  have S7 := Lib.hid s7
  have V7 := Lib.hid ((V6.out.nw nn).put o7 (fun k hk => by subst hk; have := S3.out.hi; have := S3.out.kk; omega))
  clear R1 s7 o7 q0 q1 q2 q3 q4 q5 h0 h1 h2 h3 h4 h5 b0 b1 b2 b3 k0 k1 k2 k3
  have TY := Lib.hid (S6.out.on nn)
  clear dd nn
  obtain ⟨b0, b1, b2, b3, k0, k1, k2, k3⟩ := box_cells TY.out.bd
  go_upto_if 86 with fail
  (try rw [hw7])
  clear hw7 b0 b1 b2 b3 k0 k1 k2 k3 TY
  by_cases hx3 : x3 = 0
  case neg =>
    have y2 : (x3 != 0) = true := by simpa using hx3
    have HX3 := Lib.hid hx3
    clear hx3
    go_upto_region 17 with fail
    have HE : Hid (R = ⟨d3, L1, x3⟩) := Lib.hid (by rw [← HR.out]; unfold Lg.another; rw [if_neg H100.out, HLAST.out]; simp only [HR1.out, HR2.out, HR3.out]; rw [if_neg (by simp), if_neg (by simp), if_pos HX3.out, HLG1.out])
    obtain ⟨⟨q0, q1, q2, q3, q4, q5⟩, -⟩ := lb_cells S7.out.bl
    obtain ⟨b0, b1, b2, b3, -⟩ := box_cells S7.out.bd
    obtain ⟨u0, u1, u2, u3, hr⟩ := S7.out.brd
    obtain ⟨v0, v1, v2, v3, v4, v5, hq⟩ := S7.out.brl
    obtain ⟨r0, r1, r2, r3, f0, f1, f2, f3⟩ := box_cells hr
    obtain ⟨⟨s0, s1, s2, s3, s4, s5⟩, g0, g1, g2, g3, g4, g5⟩ := lb_cells hq
    obtain ⟨e1, e2, e3, e4, e5, e6⟩ := S7.out.ne
    clear hr hq
    go_region_with fail
    all_goals
      go_wp2
      obtain ⟨w9, hw9, D9, V9, N9, BD9, BL9⟩ := S7.out.fin HX.out
      rw [hw9]
      have ND := (Nw.refl w9).drew
      obtain ⟨e0, e1, e2, e3, -⟩ := box_cells BD9
      obtain ⟨⟨j0, j1, j2, j3, j4, j5⟩, -⟩ := lb_cells BL9
      obtain ⟨k0, k1, k2, k3, -⟩ := box_cells (ND.at_ BD9)
      obtain ⟨⟨i0, i1, i2, i3, i4, i5⟩, -⟩ := lb_cells (ND.at_ BL9)
      refine bodyPost_ret (v := .tuple #[.agg #[.int .i64 m3, .slice a3 n3 c3, .int .i64 la3, .bool dn3], .agg #[.int .i64 L1.size, .slice (some ⟨g, o, none⟩) L1.l.length pc0, .int .i64 L1.n, .int .i64 L1.acked, .int .i64 L1.bytes, .bool L1.over], .int .i64 x3]) (by simp [results, Tryz.results77, go_sem, e0, e1, e2, e3, j0, j1, j2, j3, j4, j5, k0, k1, k2, k3, i0, i1, i2, i3, i4, i5]) rfl ?_
      rw [HE.out]
      first
        | exact ⟨m3, a3, n3, c3, la3, dn3, (some ⟨g, o, none⟩), pc0, rfl, D9, V9, N9⟩
        | exact ⟨m3, a3, n3, c3, la3, dn3, (some ⟨g, o, none⟩), pc0, rfl, D9.nw ND, V9.nw ND, N9.trans ND⟩
  subst hx3
  obtain ⟨⟨q0, q1, q2, q3, q4, q5⟩, h0, h1, h2, h3, h4, h5⟩ := lb_cells S7.out.bl
  obtain ⟨b0, b1, b2, b3, k0, k1, k2, k3⟩ := box_cells S7.out.bd
  go_upto_region 18 with fail
  have f1 : L2.size = L1.size := by rw [HLG2.out]
  have f2 : L2.n = L1.n := by rw [HLG2.out]
  have f3 : L2.acked = L1.acked := by rw [HLG2.out]
  have f4 : L2.bytes = L1.bytes := by rw [HLG2.out]
  have f5 : L2.over = L1.over := by rw [HLG2.out]
  obtain ⟨w8, hw8⟩ : ∃ y, w7.setCell ⟨pl, 1, none⟩ (.slice xa6 L2.l.length xc6) = y := ⟨_, rfl⟩
  have S8 := Lib.hid (hw8 ▸ S7.out.pieces (L' := L2) (pa' := xa6) (pc' := xc6) (by have := heap_setCell_at S7.out.bl 1 (.slice xa6 L2.l.length xc6); unfold logB LB; rw [f1, f2, f3, f4, f5]; simpa [logB, LB] using this) (V7.out.vec.pcs HMO.out) (fun g hg => .inr (Nat.le_trans S3.out.kk (V7.out.off g hg))))
  clear f1 f2 f3 f4 f5
  go_upto_region 19 with fail
  (try rw [hw8])
  clear hw8 q0 q1 q2 q3 q4 q5 h0 h1 h2 h3 h4 h5 b0 b1 b2 b3 k0 k1 k2 k3
  obtain ⟨⟨q0, q1, q2, q3, q4, q5⟩, h0, h1, h2, h3, h4, h5⟩ := lb_cells S8.out.bl
  obtain ⟨b0, b1, b2, b3, k0, k1, k2, k3⟩ := box_cells S8.out.bd
  obtain ⟨L3, hL3⟩ : ∃ y : Lg, y = ⟨L2.size, L2.l, L2.n, L2.acked, hb, L2.over⟩ := ⟨_, rfl⟩
  obtain ⟨w9, hw9⟩ : ∃ y, w8.setCell ⟨pl, 4, none⟩ (.int .i64 hb) = y := ⟨_, rfl⟩
  have S9 := Lib.hid (hw9 ▸ S8.out.field (L' := L3) 4 (.int .i64 hb) (by rw [hL3]) (by have := heap_setCell_at S8.out.bl 4 (.int .i64 hb); rw [hL3]; simpa [logB, LB] using this))
  have HLG3 := Lib.hid hL3
  go_upto_region 20 with fail
  (try rw [hw9])
  clear hw9 q0 q1 q2 q3 q4 q5 h0 h1 h2 h3 h4 h5 b0 b1 b2 b3 k0 k1 k2 k3 hL3
  have HE : Hid (R = ⟨d3, L3, 0⟩) := Lib.hid (by rw [← HR.out]; unfold Lg.another; rw [if_neg H100.out, HLAST.out]; simp only [HR1.out, HR2.out, HR3.out]; rw [if_neg (by simp), if_neg (by simp), if_neg (by simp), HLG3.out, HLG2.out, HLG1.out, HHB.out])
  obtain ⟨⟨q0, q1, q2, q3, q4, q5⟩, -⟩ := lb_cells S9.out.bl
  obtain ⟨b0, b1, b2, b3, -⟩ := box_cells S9.out.bd
  obtain ⟨u0, u1, u2, u3, hr⟩ := S9.out.brd
  obtain ⟨v0, v1, v2, v3, v4, v5, hq⟩ := S9.out.brl
  obtain ⟨r0, r1, r2, r3, f0, f1, f2, f3⟩ := box_cells hr
  obtain ⟨⟨s0, s1, s2, s3, s4, s5⟩, g0, g1, g2, g3, g4, g5⟩ := lb_cells hq
  obtain ⟨e1, e2, e3, e4, e5, e6⟩ := S9.out.ne
  clear hr hq
  go_region_with fail
  all_goals
    go_wp2
    obtain ⟨w9, hw9, D9, V9, N9, BD9, BL9⟩ := S9.out.fin HX.out
    rw [hw9]
    have ND := (Nw.refl w9).drew
    obtain ⟨e0, e1, e2, e3, -⟩ := box_cells BD9
    obtain ⟨⟨j0, j1, j2, j3, j4, j5⟩, -⟩ := lb_cells BL9
    obtain ⟨k0, k1, k2, k3, -⟩ := box_cells (ND.at_ BD9)
    obtain ⟨⟨i0, i1, i2, i3, i4, i5⟩, -⟩ := lb_cells (ND.at_ BL9)
    refine bodyPost_ret (v := .tuple #[.agg #[.int .i64 m3, .slice a3 n3 c3, .int .i64 la3, .bool dn3], .agg #[.int .i64 L3.size, .slice xa6 L3.l.length xc6, .int .i64 L3.n, .int .i64 L3.acked, .int .i64 L3.bytes, .bool L3.over], .int .i64 0]) (by simp [results, Tryz.results77, go_sem, e0, e1, e2, e3, j0, j1, j2, j3, j4, j5, k0, k1, k2, k3, i0, i1, i2, i3, i4, i5]) rfl ?_
    rw [HE.out]
    first
      | exact ⟨m3, a3, n3, c3, la3, dn3, xa6, xc6, rfl, D9, V9, N9⟩
      | exact ⟨m3, a3, n3, c3, la3, dn3, xa6, xc6, rfl, D9.nw ND, V9.nw ND, N9.trans ND⟩

end
end Go.Proofs.YtkbenkldfehhlaaGreatDoor
