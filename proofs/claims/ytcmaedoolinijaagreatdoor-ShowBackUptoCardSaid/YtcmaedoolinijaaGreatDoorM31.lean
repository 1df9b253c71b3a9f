/-
  Texts merged by a program of this claim's: Great, ShowY.
-/
import Derived.Test.YtcmaedoolinijaaGreatDoorM29
import Derived.Deep.DeepCutAuto
import Derived.Deep.QuietTactic
import Derived.BigQuiet
import Derived.Test.YtcmaedoolinijaaGreatDoorM30
import Derived.Test.YtcmaedoolinijaaGreatDoorM12
namespace Go.Proofs.YtcmaedoolinijaaGreatDoor
open Go Go.RowKit Go.Sort
set_option maxRecDepth 100000
set_option maxHeartbeats 3200000
theorem size_any (n : Nat) : ∀ (w : World) (e : Ex) (cs : List Value), n ≤ 60 → ExM w e cs → Calls Tryz.prog 60 #[.agg cs.toArray, .int .i64 (n : Int)] w fun z w' => (∃ k : Int, z = .returned (.int .i64 k)) ∧ Nw w w' := by
  induction n with
  | zero =>
    intro w e cs _ hE
    obtain ⟨kd, s, nv, kids⟩ := e
    rw [ExM.mk_iff] at hE
    obtain ⟨v3, rfl, -, hsl, -, hk⟩ := hE
    obtain ⟨a3, c3, rfl, -⟩ := RdK.len hk
    have N := Lib.hid ((Nw.refl w).alloc (.cells #[.int .u8 (kd : Int), .string ⟨s.toArray⟩, .int .i64 nv, .slice a3 kids.length c3] 132))
    have B := heap_alloc_new w (.cells #[.int .u8 (kd : Int), .string ⟨s.toArray⟩, .int .i64 nv, .slice a3 kids.length c3] 132)
    obtain ⟨nk, hnk⟩ : ∃ n, kids.length = n := ⟨_, rfl⟩
    rw [hnk] at N B ⊢
    obtain ⟨b0, b1, b2, b3, bf⟩ := box4 B
    clear hk B hnk
    go_enter Tryz.func60, Tryz.ntmps60
    go_wp2_with fail
    go_ret
    exact ⟨⟨_, rfl⟩, N.out⟩
  | succ n ih =>
    intro w e cs hn hE
    obtain ⟨kd, s, nv, kids⟩ := e
    rw [ExM.mk_iff] at hE
    obtain ⟨v3, rfl, -, hsl, -, hk⟩ := hE
    obtain ⟨a3, c3, rfl, hc3, hm3, -⟩ := RdK.len hk
    have hm3' : c3 ≤ 9223372036854775807 := by unfold maxLen at hm3; omega
    have N := Lib.hid ((Nw.refl w).alloc (.cells #[.int .u8 (kd : Int), .string ⟨s.toArray⟩, .int .i64 nv, .slice a3 kids.length c3] 132))
    have B := Lib.hid (heap_alloc_new w (.cells #[.int .u8 (kd : Int), .string ⟨s.toArray⟩, .int .i64 nv, .slice a3 kids.length c3] 132))
    have K := Lib.hid (fun W (hW : Nw w W) => ExsM.nw hk hW)
    obtain ⟨nk, hnk⟩ : ∃ n, kids.length = n := ⟨_, rfl⟩
    have NK := Lib.hid hnk
    rw [hnk] at N B K hc3 ⊢
    obtain ⟨eb, heb⟩ : ∃ eb, w.heap.size = eb := ⟨_, rfl⟩
    obtain ⟨w1, hw1⟩ : ∃ w1, w.alloc (.cells #[.int .u8 (kd : Int), .string ⟨s.toArray⟩, .int .i64 nv, .slice a3 nk c3] 132) = w1 := ⟨_, rfl⟩
    have HW1 := Lib.hid hw1
    have HEB := Lib.hid heb
    rw [hw1] at N B
    rw [heb] at B
    have IH := Lib.hid ih
    have HN := Lib.hid hn
    obtain ⟨n1, hn1⟩ : ∃ z : Int, ((n + 1 : Nat) : Int) = z := ⟨_, rfl⟩
    rw [hn1]
    have q0 : decide (n1 < 1) = false := by simp; omega
    have hsub : wrap64 (n1 - 1) = (n : Int) := by
      rw [show n1 - 1 = (n : Int) from by omega]
      exact IntWalk.wrap64_in _ (by omega)
    clear hk hnk hw1 heb ih hn hn1
    go_enter Tryz.func60, Tryz.ntmps60
    go_upto_region 1 with fail
    rw [HEB.out, HW1.out]
    obtain ⟨b0, b1, b2, b3, bf⟩ := box4 B.out
    go_wp2_with fail
    clear b0 b1 b2 b3 bf q0
    go_loopw [5, 6] (fun xv v wr => ∃ (k : Nat) (x : Int), k ≤ nk ∧ v = .int .i64 k ∧ xv = .int .i64 x ∧ Nw w1 wr) (fun _ v _ => nk - (intOf v).toNat)
    case atStart => exact ⟨0, _, by omega, rfl, rfl, Nw.refl _⟩
    case round =>
      obtain ⟨k, x, hkk, rfl, rfl, hw⟩ := hrel
      have HW := Lib.hid hw
      clear hw
      obtain ⟨b0, b1, b2, b3, bf⟩ := box4 (HW.out.at_ B.out)
      by_cases hkn : k < nk
      · have q : decide ((k : Int) < (nk : Int)) = true := by simp; omega
        obtain ⟨y, hy⟩ : ∃ y, decide (x ≤ 10000) = y := ⟨_, rfl⟩
        cases y with
        | false =>
          have hy2 : decide (x ≤ (10000 : Int)) = false := hy
          go_wp2_with fail
          go_ret
          exact ⟨⟨_, rfl⟩, N.out.trans HW.out⟩
        | true =>
          have hkl : k < kids.length := by have := NK.out; omega
          rcases K.out wr (N.out.trans HW.out) with ⟨a, -, e2⟩ | ⟨gv, ov, cap, e1, -, -, hgv, h3⟩
          · rw [e2] at NK; exact absurd NK.out (by simp; omega)
          obtain ⟨rfl, -, rfl⟩ : a3 = some ⟨gv, ov, none⟩ ∧ nk = kids.length ∧ c3 = cap := by simpa using e1
          obtain ⟨cs, -, hc, hd⟩ := h3 k hkl
          have CL := Lib.hid (IH.out wr _ cs (by have := HN.out; omega) hd)
          obtain ⟨x', hx'⟩ : ∃ x, kids[k]'hkl = x := ⟨_, rfl⟩
          rw [hx'] at hd
          obtain ⟨kx, sx, nx, kidx⟩ := x'
          rw [ExM.mk_iff] at hd
          obtain ⟨v3x, rfl, -, -, -, hkx⟩ := hd
          obtain ⟨ax, cx, rfl, -⟩ := RdK.len hkx
          have i0 := hc 0 (by simp)
          have i1 := hc 1 (by simp)
          have i2 := hc 2 (by simp)
          have i3 := hc 3 (by simp)
          simp only [List.getElem_cons_zero, List.getElem_cons_succ, Nat.add_zero] at i0 i1 i2 i3
          have hgl : gv < wr.heap.size := hgv
          clear hc h3 e1 hx' hgv hkx
          go_wp2_with fail
          refine CL.out.mono ?_
          rintro z w4 ⟨⟨r, rfl⟩, n4⟩
          have N4 := Lib.hid (HW.out.trans n4)
          clear n4 CL i0 i1 i2 i3 hgl b0 b1 b2 b3 bf
          go_wp2_with fail
          exact ⟨⟨k + 1, _, by omega, by simp, rfl, N4.out⟩, by simp [intOf]; omega⟩
      · have q : decide ((k : Int) < (nk : Int)) = false := by simp; omega
        go_wp2_with fail
        go_ret
        exact ⟨⟨_, rfl⟩, N.out.trans HW.out⟩
theorem Great_any {w : World} {v0 v1 : Value} {c : CodeP} (h : CodeM w [v0, v1] c) : Calls Tryz.prog 25 #[.agg #[v0, v1]] w fun z w' => (∃ b : Bool, z = .returned (.bool b)) ∧ Nw w w' := by
  obtain ⟨y0, y1, e, h0, h1⟩ := h
  cases e
  obtain ⟨a0, c0, rfl, hc0, hm0, -⟩ := h0.len
  obtain ⟨a1, c1, rfl, hc1, hm1, -⟩ := h1.len
  have hm1' : c1 ≤ 9223372036854775807 := by unfold maxLen at hm1; omega
  have H1 := Lib.hid (fun (W : World) (hW : Nw w W) => h1.nwR hW (fun _ _ h => h.nw hW))
  obtain ⟨os, ts⟩ := c
  simp only at *
  obtain ⟨no, hno⟩ : ∃ n, os.length = n := ⟨_, rfl⟩
  obtain ⟨nt, hnt⟩ : ∃ n, ts.length = n := ⟨_, rfl⟩
  have NT := Lib.hid hnt
  rw [hnt] at hc1 H1
  rw [hno, hnt]
  have PB0 := Lib.hid (heap_alloc_new w (.cells #[.slice a0 no c0, .slice a1 nt c1] 25))
  have N0 := Lib.hid ((Nw.refl w).alloc (.cells #[.slice a0 no c0, .slice a1 nt c1] 25))
  clear h0 h1 hno hnt
  go_enter Tryz.func25, Tryz.ntmps25
  go_upto_region 1 with fail
  obtain ⟨cb, hcb⟩ : ∃ cb, w.heap.size = cb := ⟨_, rfl⟩
  obtain ⟨w1, hw1⟩ : ∃ w1, w.alloc (.cells #[.slice a0 no c0, .slice a1 nt c1] 25) = w1 := ⟨_, rfl⟩
  rw [hw1, hcb] at PB0
  rw [hw1] at N0
  rw [hw1, hcb]
  clear hw1 hcb
  obtain ⟨p0, p1, pf⟩ := box2 PB0.out
  go_wp2_with fail
  clear p0 p1 pf
  go_loopw [3, 5, 18] (fun xv _ v wr => ∃ (k : Nat) (x : Int), k ≤ nt ∧ v = .int .i64 k ∧ xv = .int .i64 x ∧ Nw w1 wr) (fun _ _ v _ => nt - (intOf v).toNat)
  case atStart => exact ⟨0, _, by omega, rfl, rfl, Nw.refl _⟩
  case round =>
    obtain ⟨k, x, hk, rfl, rfl, hw⟩ := hrel
    have HW := Lib.hid hw
    clear hw
    have PB := Lib.hid (HW.out.at_ PB0.out)
    obtain ⟨p0, p1, pf⟩ := box2 PB.out
    by_cases hkn : k < nt
    · have q : decide ((k : Int) < (nt : Int)) = true := by simp; omega
      have hkl : k < ts.length := by have := NT.out; omega
      rcases H1.out wr (N0.out.trans HW.out) with ⟨a, -, e2⟩ | ⟨gv, ov, cap, e1, -, -, hgv, h3⟩
      · rw [e2] at NT; exact absurd NT.out (by simp; omega)
      obtain ⟨rfl, -, rfl⟩ : a1 = some ⟨gv, ov, none⟩ ∧ nt = ts.length ∧ c1 = cap := by simpa using e1
      obtain ⟨cs, -, hc, hd⟩ := h3 k hkl
      obtain ⟨t, htt⟩ : ∃ d, ts[k]'hkl = d := ⟨_, rfl⟩
      rw [htt] at hd
      obtain ⟨u1, u2, rfl, -, hd2, hd3⟩ := hd
      obtain ⟨l1, l2, rfl, -⟩ := hd2.len
      obtain ⟨l3, l4, rfl, hl4, hl4m, -⟩ := hd3.len
      have hl4' : l4 ≤ 9223372036854775807 := by unfold maxLen at hl4m; omega
      have e0 := hc 0 (by simp)
      have e1' := hc 1 (by simp)
      have e2 := hc 2 (by simp)
      simp only [List.getElem_cons_zero, List.getElem_cons_succ, Nat.add_zero] at e0 e1' e2
      have hgl : gv < wr.heap.size := hgv
      obtain ⟨nl, hnl⟩ : ∃ n, t.locals.length = n := ⟨_, rfl⟩
      obtain ⟨nc, hnc⟩ : ∃ n, t.code.length = n := ⟨_, rfl⟩
      have NC := Lib.hid hnc
      have HCO := Lib.hid (fun (W : World) (hW : Nw wr W) => hd3.nwR hW (fun _ _ h => isIns.nw h hW))
      rw [hnl] at e1'
      rw [hnc] at e2 hl4 HCO
      have E2 := Lib.hid e2
      have EG := Lib.hid hgl
      clear hc h3 e1 htt hgv hd2 hd3 hnl hnc
      go_upto_region 5 with fail
      have g1 := cellG p1
      have f1 := cellG e1'
      have f2 := cellG e2
      have hgl2 : ∀ p : Regrown, gv < (grow (redrawn wr p.d) p.os).heap.size := fun p => Nat.lt_of_lt_of_le hgl (Nw.of_regrown ⟨p, rfl⟩).size
      clear p0 p1 pf e0 e1' e2
      refine wp_region_quiet_below (by kernel_rfl) (by kernel_rfl) ?_
      repeat (first | go_big_quiet_step (fail) | quiet_step (fail))
      refine wpQuiet_nil ?_
      intro w2 hw2
      have n2 := Nw.of_regrown hw2
      have N2 : Hid (Nw w1 w2) := Lib.hid (HW.out.trans n2)
      have E22 := Lib.hid (n2.cell E2.out)
      have EG2 := Lib.hid (Nat.lt_of_lt_of_le EG.out n2.size)
      have HC2 := Lib.hid (fun (W : World) (hW : Nw w2 W) => HCO.out W (n2.trans hW))
      clear hw2 n2 g1 f1 f2 hgl2 HCO E2 EG hgl HW PB
      go_wp2_with fail
      go_loopw [3, 5] (fun xv v wq => ∃ (i : Nat) (x : Int), i ≤ nc ∧ v = .int .i64 i ∧ xv = .int .i64 x ∧ Nw w2 wq) (fun _ v _ => nc - (intOf v).toNat)
      case atStart => exact ⟨0, _, by omega, rfl, rfl, Nw.refl _⟩
      case round =>
        obtain ⟨i, x2, hi, rfl, rfl, hw⟩ := hrel
        have HW := Lib.hid hw
        clear hw
        have PB := Lib.hid (HW.out.at_ (N2.out.at_ PB0.out))
        obtain ⟨p0, p1, pf⟩ := box2 PB.out
        have e2 := HW.out.cell E22.out
        have hgl : gv < wr.heap.size := Nat.lt_of_lt_of_le EG2.out HW.out.size
        by_cases hin : i < nc
        · have q3 : decide ((i : Int) < (nc : Int)) = true := by simp; omega
          obtain ⟨y, hy⟩ : ∃ y, decide (x2 ≤ 6000) = y := ⟨_, rfl⟩
          cases y with
          | false =>
            have hy2 : decide (x2 ≤ (6000 : Int)) = false := hy
            go_wp2_with fail
            exact ⟨⟨k + 1, _, by omega, by simp, rfl, N2.out.trans HW.out⟩, by simp [intOf]; omega⟩
          | true =>
            have hil : i < t.code.length := by have := NC.out; omega
            rcases HC2.out wr HW.out with ⟨a, -, e9⟩ | ⟨gc, oc, cap, e9, -, -, hgc, h3⟩
            · rw [e9] at NC; exact absurd NC.out (by simp; omega)
            obtain ⟨rfl, -, rfl⟩ : l3 = some ⟨gc, oc, none⟩ ∧ nc = t.code.length ∧ l4 = cap := by simpa using e9
            obtain ⟨cs, -, hc, hx⟩ := h3 i hil
            obtain ⟨v6, rfl, -, -, -, -, -, -, hv6⟩ := hx
            obtain ⟨a6, c6, rfl, hc6, hm6, -⟩ := RdK.len hv6
            have hm6' : c6 ≤ 9223372036854775807 := by unfold maxLen at hm6; omega
            have i6 := hc 6 (by simp)
            simp only [List.getElem_cons_zero, List.getElem_cons_succ, Nat.add_zero] at i6
            have hgcl : gc < wr.heap.size := hgc
            obtain ⟨args, hargs⟩ : ∃ l, (t.code[i]'hil).args = l := ⟨_, rfl⟩
            obtain ⟨na, hna⟩ : ∃ n, args.length = n := ⟨_, rfl⟩
            rw [hargs] at hv6 hc6 i6
            have NA := Lib.hid hna
            have HAX := Lib.hid (fun (W : World) (hW : Nw wr W) => ExsM.nw hv6 hW)
            rw [hna] at hc6 i6 HAX
            have WB : ∃ wb, wb = wr := ⟨_, rfl⟩
            obtain ⟨wb, hwb⟩ := WB
            have HWB := Lib.hid hwb
            have HWW : Hid (Nw w1 wb) := Lib.hid (by rw [hwb]; exact N2.out.trans HW.out)
            have HWW2 : Hid (Nw w2 wb) := Lib.hid (by rw [hwb]; exact HW.out)
            have HAY : Hid (∀ W, Nw wb W → ExsM W (.slice a6 na c6) args) := Lib.hid (by rw [hwb]; exact HAX.out)
            rw [← hwb] at e2 hgl i6 hgcl p0 p1 pf ⊢
            clear hc h3 e9 hgc hv6 hargs hna hwb HWB HAX HW PB
            go_wp2_with fail
            clear p0 p1 pf e2 hgl i6 hgcl
            go_loopw [3, 64] (fun xv v wq => ∃ (j : Nat) (x : Int), j ≤ na ∧ v = .int .i64 j ∧ xv = .int .i64 x ∧ Nw wb wq) (fun _ v _ => na - (intOf v).toNat)
            case atStart => exact ⟨0, _, by omega, rfl, rfl, Nw.refl _⟩
            case round =>
              obtain ⟨j, x3, hj, rfl, rfl, hw⟩ := hrel
              have HW := Lib.hid hw
              clear hw
              by_cases hjn : j < na
              · have q4 : decide ((j : Int) < (na : Int)) = true := by simp; omega
                have hjl : j < args.length := by have := NA.out; omega
                rcases HAY.out wr HW.out with ⟨a, -, e9⟩ | ⟨ga, oa, cap, e9, -, -, hga, h3⟩
                · rw [e9] at NA; exact absurd NA.out (by simp; omega)
                obtain ⟨rfl, -, rfl⟩ : a6 = some ⟨ga, oa, none⟩ ∧ na = args.length ∧ c6 = cap := by simpa using e9
                obtain ⟨cs, -, hc, hd⟩ := h3 j hjl
                obtain ⟨x', hx'⟩ : ∃ x, args[j]'hjl = x := ⟨_, rfl⟩
                rw [hx'] at hd
                have HX := Lib.hid hd
                obtain ⟨kx, sx, nx, kidx⟩ := x'
                rw [ExM.mk_iff] at hd
                obtain ⟨v3x, rfl, -, -, -, hkx⟩ := hd
                obtain ⟨ax, cx, rfl, -⟩ := RdK.len hkx
                have i0 := hc 0 (by simp)
                have i1 := hc 1 (by simp)
                have i2 := hc 2 (by simp)
                have i3 := hc 3 (by simp)
                simp only [List.getElem_cons_zero, List.getElem_cons_succ, Nat.add_zero] at i0 i1 i2 i3
                have hgal : ga < wr.heap.size := hga
                have NE := (Nw.refl wr).alloc (.cells #[.int .u8 (kx : Int), .string ⟨sx.toArray⟩, .int .i64 nx, .slice ax kidx.length cx] 132)
                have CL := Lib.hid (size_any 60 _ _ _ (by omega) (ExM.nw NE HX.out))
                have NE2 := Lib.hid (HW.out.trans NE)
                clear hc h3 e9 hx' hga hkx NE
                go_wp2_with fail
                refine CL.out.mono ?_
                rintro z w4 ⟨⟨r, rfl⟩, n4⟩
                have N4 := Lib.hid (NE2.out.trans n4)
                clear n4 CL i0 i1 i2 i3 hgal
                go_wp2_with fail
                exact ⟨⟨j + 1, _, by omega, by simp, rfl, N4.out⟩, by simp [intOf]; omega⟩
              · have q4 : decide ((j : Int) < (na : Int)) = false := by simp; omega
                go_wp2_with fail
                exact ⟨⟨i + 1, _, by omega, by simp, rfl, HWW2.out.trans HW.out⟩, by simp [intOf]; omega⟩
        · have q3 : decide ((i : Int) < (nc : Int)) = false := by simp; omega
          go_wp2_with fail
          exact ⟨⟨k + 1, _, by omega, by simp, rfl, N2.out.trans HW.out⟩, by simp [intOf]; omega⟩
    · have q : decide ((k : Int) < (nt : Int)) = false := by simp; omega
      go_wp2_with fail
      go_ret
      exact ⟨⟨_, rfl⟩, N0.out.trans HW.out⟩
end Go.Proofs.YtcmaedoolinijaaGreatDoor

namespace Go.Proofs.YtcmaedoolinijaaGreatDoor
open Go Go.RowKit Go.Sort
set_option maxRecDepth 100000
set_option maxHeartbeats 3200000
theorem neq_ev17 (e : Ev) (w : World) : (binOp .neq 29 (.agg #[.int .i64 e.thread, .int .u8 e.op.toNat, .int .i64 e.obj, .int .i64 e.a, .int .i64 e.b]) (.agg #[.int .i64 e.thread, .int .u8 e.op.toNat, .int .i64 e.obj, .int .i64 e.a, .int .i64 e.b])).run Tryz.prog w = .ok (.bool false) w := by
  have hS : Tryz.prog.underlying 29 = some (.struct (Tryz.prog.fieldsOf 29)) := by kernel_rfl
  have hp : Tryz.prog.stoodInHeld 29 = false := by kernel_rfl
  have u1 := Tryz.underlying3
  have u2 := Tryz.underlying27
  rw [run_neq_struct, show (10000 : Nat) = 9999 + 1 from rfl, run_equalIn_agg w 9999 29 _ _ hS hp]
  simp only [Program.fieldsOf, Tryz.underlying29]
  go_simp
theorem isEv.cells {w : World} {v : Value} {l : List Ev} (h : RdK 5 isEv w v l) {k : Nat} (hk : k < l.length) : ∃ g o c, v = .slice (some ⟨g, o, none⟩) l.length c ∧ c ≤ maxLen ∧ l.length ≤ c ∧ g < w.heap.size ∧ w.cell? ⟨g, o + k * 5, none⟩ = some (.int .i64 (l[k]).thread) ∧ w.cell? ⟨g, o + k * 5 + 1, none⟩ = some (.int .u8 ((l[k]).op.toNat : Int)) ∧
    w.cell? ⟨g, o + k * 5 + 2, none⟩ = some (.int .i64 (l[k]).obj) ∧ w.cell? ⟨g, o + k * 5 + 3, none⟩ = some (.int .i64 (l[k]).a) ∧ w.cell? ⟨g, o + k * 5 + 4, none⟩ = some (.int .i64 (l[k]).b) := by
  rcases h with ⟨a, -, e2⟩ | ⟨gv, ov, cap, rfl, h1, h2, hgv, h3⟩
  · rw [e2] at hk; exact absurd hk (by simp)
  · obtain ⟨cs, -, hc, rfl, -⟩ := h3 k hk
    have e0 := hc 0 (by simp [evA])
    have e1' := hc 1 (by simp [evA])
    have e2 := hc 2 (by simp [evA])
    have e3 := hc 3 (by simp [evA])
    have e4 := hc 4 (by simp [evA])
    simp only [evA, List.getElem_cons_zero, List.getElem_cons_succ, Nat.add_zero] at e0 e1' e2 e3 e4
    exact ⟨gv, ov, cap, rfl, h2, h1, hgv, e0, e1', e2, e3, e4⟩
theorem SameEv17_ok {w : World} {v u : Value} {l : List Ev} (h : RdK 5 isEv w v l) (h' : RdK 5 isEv w u l) :
    Calls Tryz.prog 13 #[v, u] w fun e w' => e = .returned (.bool true) ∧ Nw w w' := by
  have HL := Lib.hid (fun (k : Nat) (hk : k < l.length) => isEv.cells h hk)
  have HK := Lib.hid (fun (k : Nat) (hk : k < l.length) => isEv.cells h' hk)
  obtain ⟨la, lc, rfl, hlc, hlm, -⟩ := h.len
  obtain ⟨ka, kc, rfl, -⟩ := h'.len
  obtain ⟨n, hn⟩ : ∃ n, l.length = n := ⟨_, rfl⟩
  have HN := Lib.hid hn
  have hn63 : n ≤ 9223372036854775807 := by unfold maxLen at hlm; omega
  rw [hn]
  have hgd : Tryz.prog.eqGuardType Tryz.prog.depth 29 = false := by kernel_rfl
  clear h h' hn hlc hlm
  go_enter Tryz.func13, Tryz.ntmps13
  go_wp2_with fail
  go_loopw [5, 13] (fun _ i wr => ∃ k : Nat, k ≤ n ∧ i = .int .i64 k ∧ Nw w wr) (fun _ i _ => n - (intOf i).toNat)
  case atStart => exact ⟨0, Nat.zero_le _, rfl, Nw.refl _⟩
  case round =>
    obtain ⟨k, hk, rfl, hwr⟩ := hrel
    have HW := Lib.hid hwr
    clear hwr
    by_cases hlt : k < n
    · have q : decide ((k : Int) < (n : Int)) = true := by simp; omega
      have hkl : k < l.length := by rw [HN.out]; exact hlt
      obtain ⟨g, o, c9, e9, -, -, hg, c0, c1, c2, c3, c4⟩ := HL.out k hkl
      obtain ⟨rfl, rfl⟩ : la = some ⟨g, o, none⟩ ∧ lc = c9 := by simpa using e9
      obtain ⟨g2, o2, c8, e8, -, -, hg2, d0, d1, d2, d3, d4⟩ := HK.out k hkl
      obtain ⟨rfl, rfl⟩ : ka = some ⟨g2, o2, none⟩ ∧ kc = c8 := by simpa using e8
      generalize l[k] = q' at c0 c1 c2 c3 c4 d0 d1 d2 d3 d4
      have heq := neq_ev17 q'
      have c0 := HW.out.cell c0
      have c1 := HW.out.cell c1
      have c2 := HW.out.cell c2
      have c3 := HW.out.cell c3
      have c4 := HW.out.cell c4
      have d0 := HW.out.cell d0
      have d1 := HW.out.cell d1
      have d2 := HW.out.cell d2
      have d3 := HW.out.cell d3
      have d4 := HW.out.cell d4
      have hg := Nat.lt_of_lt_of_le hg HW.out.size
      have hg2 := Nat.lt_of_lt_of_le hg2 HW.out.size
      clear hkl e9 e8
      go_upto_region 6 with fail
      have c0 := cellG c0
      have c1 := cellG c1
      have c2 := cellG c2
      have c3 := cellG c3
      have c4 := cellG c4
      have d0 := cellG d0
      have d1 := cellG d1
      have d2 := cellG d2
      have d3 := cellG d3
      have d4 := cellG d4
      refine wp_region_quiet_below (by kernel_rfl) (by kernel_rfl) ?_
      repeat (first | go_big_quiet_step (fail) | quiet_step (fail))
      refine wpQuiet_nil ?_
      intro w2 hw2
      have N2 := Lib.hid (HW.out.trans (Nw.of_regrown hw2))
      clear c0 c1 c2 c3 c4 d0 d1 d2 d3 d4 heq hw2
      go_wp2_with fail
      exact ⟨⟨k + 1, by omega, by simp, N2.out⟩, by simp [intOf]; omega⟩
    · have q : decide ((k : Int) < (n : Int)) = false := by simp; omega
      go_wp2_with fail
      go_ret
      exact ⟨rfl, HW.out⟩
theorem long_any {w : World} {v0 v1 : Value} {c : CodeP} (h : CodeM w [v0, v1] c) : Calls Tryz.prog 10 #[.agg #[v0, v1]] w fun z w' => (∃ b : Bool, z = .returned (.bool b)) ∧ Nw w w' := by
  have HG := Lib.hid (fun W (hW : Nw w W) => Great_any (h.nw hW))
  obtain ⟨y0, y1, e, h0, h1⟩ := h
  cases e
  obtain ⟨a0, c0, rfl, hc0, hm0, -⟩ := h0.len
  obtain ⟨a1, c1, rfl, hc1, hm1, -⟩ := h1.len
  have hm1' : c1 ≤ 9223372036854775807 := by unfold maxLen at hm1; omega
  have hm0' : c0 ≤ 9223372036854775807 := by unfold maxLen at hm0; omega
  have H0 := Lib.hid (fun (W : World) (hW : Nw w W) => h0.nw hW)
  have H1 := Lib.hid (fun (W : World) (hW : Nw w W) => h1.nwR hW (fun _ _ h => h.nw hW))
  obtain ⟨os, ts⟩ := c
  simp only at *
  obtain ⟨no, hno⟩ : ∃ n, os.length = n := ⟨_, rfl⟩
  obtain ⟨nt, hnt⟩ : ∃ n, ts.length = n := ⟨_, rfl⟩
  have NO := Lib.hid hno
  have NT := Lib.hid hnt
  rw [hno] at hc0 H0 HG ⊢
  rw [hnt] at hc1 H1 HG ⊢
  have PB0 := Lib.hid (heap_alloc_new w (.cells #[.slice a0 no c0, .slice a1 nt c1] 25))
  have N0 := Lib.hid ((Nw.refl w).alloc (.cells #[.slice a0 no c0, .slice a1 nt c1] 25))
  clear h0 h1 hno hnt
  go_enter Tryz.func10, Tryz.ntmps10
  go_upto_region 1 with fail
  obtain ⟨cb, hcb⟩ : ∃ cb, w.heap.size = cb := ⟨_, rfl⟩
  obtain ⟨w1, hw1⟩ : ∃ w1, w.alloc (.cells #[.slice a0 no c0, .slice a1 nt c1] 25) = w1 := ⟨_, rfl⟩
  rw [hw1, hcb] at PB0
  rw [hw1] at N0
  rw [hw1, hcb]
  clear hw1 hcb
  obtain ⟨p0, p1, pf⟩ := box2 PB0.out
  go_wp2_with fail
  clear p0 p1 pf
  go_loopw [3, 8] (fun _ v wr => ∃ k : Nat, k ≤ nt ∧ v = .int .i64 k ∧ Nw w1 wr) (fun _ v _ => nt - (intOf v).toNat)
  case atStart => exact ⟨0, by omega, rfl, Nw.refl _⟩
  case round =>
    obtain ⟨k, hk, rfl, hw⟩ := hrel
    have HW := Lib.hid hw
    clear hw
    have PB := Lib.hid (HW.out.at_ PB0.out)
    obtain ⟨p0, p1, pf⟩ := box2 PB.out
    by_cases hkn : k < nt
    · have q : decide ((k : Int) < (nt : Int)) = true := by simp; omega
      have hkl : k < ts.length := by have := NT.out; omega
      rcases H1.out wr (N0.out.trans HW.out) with ⟨a, -, e2⟩ | ⟨gv, ov, cap, e1, -, -, hgv, h3⟩
      · rw [e2] at NT; exact absurd NT.out (by simp; omega)
      obtain ⟨rfl, -, rfl⟩ : a1 = some ⟨gv, ov, none⟩ ∧ nt = ts.length ∧ c1 = cap := by simpa using e1
      obtain ⟨cs, -, hc, hd⟩ := h3 k hkl
      obtain ⟨t, htt⟩ : ∃ d, ts[k]'hkl = d := ⟨_, rfl⟩
      rw [htt] at hd
      obtain ⟨u1, u2, rfl, hlen, -⟩ := hd
      have hgl : gv < wr.heap.size := hgv
      have e0 := hc 0 (by simp)
      simp only [List.getElem_cons_zero, Nat.add_zero] at e0
      obtain ⟨y, hy⟩ : ∃ y, decide ((100 : Int) < (t.name.length : Int)) = y := ⟨_, rfl⟩
      clear hc h3 e1 htt
      cases y with
      | true =>
        go_wp2_with fail
        go_ret
        exact ⟨⟨_, rfl⟩, N0.out.trans HW.out⟩
      | false =>
        go_wp2_with fail
        exact ⟨⟨k + 1, by omega, by simp, HW.out⟩, by simp [intOf]; omega⟩
    · have q : decide ((k : Int) < (nt : Int)) = false := by simp; omega
      go_wp2_with fail
      go_loopw [4, 23] (fun _ v wr => ∃ k : Nat, k ≤ no ∧ v = .int .i64 k ∧ Nw w1 wr) (fun _ v _ => no - (intOf v).toNat)
      case atStart => exact ⟨0, by omega, rfl, HW.out⟩
      case round =>
        obtain ⟨k2, hk2, rfl, hw⟩ := hrel
        have HW := Lib.hid hw
        clear hw p0 p1 pf
        have HPB := Lib.hid (HW.out.at_ PB0.out)
        obtain ⟨p0, p1, pf⟩ := box2 HPB.out
        have hpl := lt_of_block HPB.out
        by_cases hkn2 : k2 < no
        · have q2 : decide ((k2 : Int) < (no : Int)) = true := by simp; omega
          have hkl : k2 < os.length := by have := NO.out; omega
          rcases H0.out _ (N0.out.trans HW.out) with ⟨a, -, e2⟩ | ⟨gv, ov, cap, e1, -, -, hgv, h3⟩
          · rw [e2] at NO; exact absurd NO.out (by simp; omega)
          obtain ⟨rfl, -, rfl⟩ : a0 = some ⟨gv, ov, none⟩ ∧ no = os.length ∧ c0 = cap := by simpa using e1
          obtain ⟨cs, -, hc, hd, -, hlen, -⟩ := h3 k2 hkl
          obtain ⟨d, hdd⟩ : ∃ d, os[k2]'hkl = d := ⟨_, rfl⟩
          rw [hdd] at hd hlen
          subst hd
          have e1' := hc 1 (by simp)
          have hgl : gv < wr.heap.size := hgv
          simp only [List.getElem_cons_zero, List.getElem_cons_succ] at e1'
          obtain ⟨y, hy⟩ : ∃ y, decide ((100 : Int) < (d.name.length : Int)) = y := ⟨_, rfl⟩
          clear hc h3 e1 hdd
          cases y with
          | true =>
            go_wp2_with fail
            go_ret
            exact ⟨⟨_, rfl⟩, N0.out.trans HW.out⟩
          | false =>
            go_wp2_with fail
            exact ⟨⟨k2 + 1, by omega, by simp, HW.out⟩, by simp [intOf]; omega⟩
        · have q2 : decide ((k2 : Int) < (no : Int)) = false := by simp; omega
          have GR := Lib.hid (HG.out _ (N0.out.trans HW.out))
          go_wp2_with fail
          refine GR.out.mono ?_
          rintro z w4 ⟨⟨b, rfl⟩, n4⟩
          have N4 := Lib.hid (N0.out.trans (HW.out.trans n4))
          clear n4
          go_wp2_with fail
          go_ret
          exact ⟨⟨_, rfl⟩, N4.out⟩
theorem RdK.take {α : Type} {k : Nat} {R : List Value → α → Prop} {w : World} {a : Option Addr} {n c m : Nat} {l : List α} (h : RdK k R w (.slice a n c) l) (hm : m ≤ n) : RdK k R w (.slice a m c) (l.take m) := by
  rcases h with ⟨a', e, rfl⟩ | ⟨g, o, cap, e, h1, h2, hg, h3⟩
  · cases e
    obtain rfl : m = 0 := by omega
    exact .inl ⟨a, rfl, by simp⟩
  · cases e
    refine .inr ⟨g, o, c, ?_, ?_, h2, hg, fun i hi => ?_⟩
    · rw [List.length_take, Nat.min_eq_left hm]
    · rw [List.length_take]; omega
    · rw [List.length_take] at hi
      obtain ⟨cs, x1, x2, x3⟩ := h3 i (by omega)
      exact ⟨cs, x1, x2, by rw [List.getElem_take]; exact x3⟩
theorem RdK.ok {w : World} {v : Value} {l : List Ev} (h : RdK 5 isEv w v l) : ∀ e ∈ l, e.Ok := fun e he => by
  obtain ⟨i, hi, rfl⟩ := List.getElem_of_mem he
  rcases h with ⟨a, -, e2⟩ | ⟨gv, ov, cap, rfl, h1, h2, hgv, h3⟩
  · rw [e2] at hi; exact absurd hi (by simp)
  · obtain ⟨cs, -, -, -, hok⟩ := h3 i hi
    exact hok
theorem lines_ge (c : CodeP) : ∀ l : List Ev, l.length ≤ (linesS c l).length
  | [] => by simp
  | e :: l => by
    have := lines_ge c l
    rw [lines_cons]
    simp only [List.length_cons, List.length_append]
    omega
theorem lines_le {c : CodeP} (hr : rightS c = true) : ∀ l : List Ev, (∀ e ∈ l, e.Ok) → (linesS c l).length ≤ l.length * 206
  | [], _ => by simp [linesS]
  | e :: l, h => by
    have h1 := lines_le hr l (fun x hx => h x (List.mem_cons_of_mem _ hx))
    have h2 := rightS_line hr e (h e (by simp))
    rw [lines_cons]
    simp only [List.length_cons, List.length_append]
    omega
theorem back1 {c : CodeP} {l : List Ev} {t : List UInt8} (h : textS c l = (t, 0)) (hok : ∀ e ∈ l, e.Ok) : evsS c t = (l, 0, 0) ∧ t.count 10 = l.length ∧ t.length ≤ l.length * 206 := by
  unfold textS at h
  cases hr : rightS c with
  | false => rw [hr] at h; simp at h
  | true =>
    rw [hr] at h
    simp only [if_true] at h
    obtain ⟨h1, h2⟩ := textF_spec.1 h
    rw [List.nil_append] at h2
    subst h2
    refine ⟨?_, count_lines hr l h1, lines_le hr l hok⟩
    unfold evsS
    rw [hr]
    simp only [if_true]
    have := events_back hr l ((linesS c l).length + 1) [] 1 (by have := lines_ge c l; omega) (fun e he => ⟨hok e he, h1 e he⟩)
    rw [this]
    simp
theorem back2 (c : CodeP) (s : List UInt8) : ((evsS c s).2.1 ≠ 0 ∧ (evsS c s).1 = [] ∧ (((evsS c s).2.1 = 120) ↔ ((evsS c s).2.2 = 0))) ∨ ((evsS c s).2.1 = 0 ∧ textS c (evsS c s).1 = (s, 0) ∧ (evsS c s).1.length ≤ s.length) := by
  obtain ⟨⟨m, k, z⟩, hx⟩ : ∃ x, evsS c s = x := ⟨_, rfl⟩
  rw [hx]
  unfold evsS at hx
  cases hr : rightS c with
  | false =>
    rw [hr] at hx
    simp only [Bool.false_eq_true, if_false] at hx
    cases hx
    exact .inl ⟨by simp, rfl, by simp⟩
  | true =>
    rw [hr] at hx
    simp only [if_true] at hx
    by_cases hk : k = 0
    · subst hk
      obtain ⟨-, l, h1, h2, h3⟩ := events_text _ _ _ _ _ _ (by omega) hx
      rw [List.nil_append] at h1
      subst h1
      refine .inr ⟨rfl, ?_, ?_⟩
      · unfold textS
        rw [hr]
        simp only [if_true]
        exact textF_spec.2 ⟨h3, by rw [h2]; simp⟩
      · have := lines_ge c m
        simp only
        rw [h2]
        exact this
    · obtain ⟨h1, h2, h3⟩ := events_bad _ _ _ _ _ _ _ (by omega) hx hk
      subst h1 h2
      exact .inl ⟨by simp, rfl, by simp; omega⟩
end Go.Proofs.YtcmaedoolinijaaGreatDoor
