/-
  Texts merged by a program of this claim's: CkG.
-/
import Derived.Test.YtcmaedoolinijaaGreatDoorM28
import Derived.Deep.DeepCutAuto
namespace Go.Proofs.YtcmaedoolinijaaGreatDoor
open Go Go.RowKit Go.Sort
set_option maxRecDepth 100000
set_option maxHeartbeats 3200000
def insB (os : List Dcl) (t : TextP) (x : InsP) : Bool := mayB os t x && x.args.all (soundB t.locals.length)
theorem any_sound (nl : Nat) (l : List Ex) : (l.any fun e => !soundB nl e) = !l.all (soundB nl) := by
  induction l with
  | nil => rfl
  | cons a l ih => rw [List.any_cons, List.all_cons, ih, Bool.not_and]
theorem any_not {α : Type} (p : α → Bool) (l : List α) : (l.any fun e => !p e) = !l.all p := by
  induction l with
  | nil => rfl
  | cons a l ih => rw [List.any_cons, List.all_cons, ih, Bool.not_and]
theorem textB_not (os : List Dcl) (t : TextP) : (!textB os t) = (decide (120 < t.locals.length) || decide (4000 < t.code.length) || t.code.any fun x => !insB os t x) := by
  unfold textB
  rw [any_not]
  have e : (t.code.all fun x => mayB os t x && x.args.all (soundB t.locals.length)) = t.code.all (insB os t) := rfl
  rw [e, Bool.not_and, Bool.not_and]
  by_cases h1 : 120 < t.locals.length <;> by_cases h2 : 4000 < t.code.length <;> simp [h1, h2, show ¬ t.locals.length ≤ 120 ↔ 120 < t.locals.length from by omega, show ¬ t.code.length ≤ 4000 ↔ 4000 < t.code.length from by omega] <;> omega
theorem codeB_not (c : CodeP) : (!codeB c) = (decide (64 < c.objs.length) || decide (16 < c.threads.length) || (c.objs.any fun d => !objB c.objs d) || c.threads.any fun t => !textB c.objs t) := by
  unfold codeB
  rw [any_not, any_not, Bool.not_and, Bool.not_and, Bool.not_and]
  have h1 : (!decide (c.objs.length ≤ 64)) = decide (64 < c.objs.length) := by
    by_cases h : 64 < c.objs.length <;> simp [h] <;> omega
  have h2 : (!decide (c.threads.length ≤ 16)) = decide (16 < c.threads.length) := by
    by_cases h : 16 < c.threads.length <;> simp [h] <;> omega
  rw [h1, h2]
theorem CodeG_ok {w : World} (hM : Mx w) {v0 v1 : Value} {c : CodeP} (h0 : RdK 5 isDcl w v0 c.objs) (h1 : RdK 3 (isText w) w v1 c.threads) (hargs : ∀ t ∈ c.threads, ∀ x ∈ t.code, x.args.length ≤ 1048576) :
    Calls Tryz.prog 41 #[.agg #[v0, v1]] w fun z w' => z = .returned (.int .i64 (if codeB c then 0 else 120)) ∧ Nw w w' := by
  obtain ⟨a0, c0, rfl, hc0, hm0, -⟩ := h0.len
  obtain ⟨a1, c1, rfl, hc1, hm1, -⟩ := h1.len
  have hm0' : c0 ≤ 9223372036854775807 := by unfold maxLen at hm0; omega
  have hm1' : c1 ≤ 9223372036854775807 := by unfold maxLen at hm1; omega
  have H0 := Lib.hid (fun (W : World) (hW : Nw w W) => h0.nw hW)
  have H1 := Lib.hid (fun (W : World) (hW : Nw w W) => h1.nwR hW (fun _ _ h => h.nw hW))
  have HM := Lib.hid (fun (W : World) (hW : Nw w W) => hM.nw hW)
  have HAR := Lib.hid hargs
  obtain ⟨os, ts⟩ := c
  simp only at *
  obtain ⟨no, hno⟩ : ∃ n, os.length = n := ⟨_, rfl⟩
  obtain ⟨nt, hnt⟩ : ∃ n, ts.length = n := ⟨_, rfl⟩
  have NO := Lib.hid hno
  have NT := Lib.hid hnt
  obtain ⟨r, hr⟩ : ∃ r, (!codeB ⟨os, ts⟩) = r := ⟨_, rfl⟩
  have hcb : codeB ⟨os, ts⟩ = !r := by rw [← hr, Bool.not_not]
  rw [codeB_not] at hr
  simp only at hr
  rw [hcb]
  rw [hno, hnt] at hr
  have HR := Lib.hid hr
  rw [hno] at hc0 H0 ⊢
  rw [hnt] at hc1 H1 ⊢
  have PB0 := Lib.hid (heap_alloc_new w (.cells #[.slice a0 no c0, .slice a1 nt c1] 25))
  have N0 := Lib.hid ((Nw.refl w).alloc (.cells #[.slice a0 no c0, .slice a1 nt c1] 25))
  clear h0 h1 hno hnt hM hargs hr hcb
  go_enter Tryz.func41, Tryz.ntmps41
  go_upto_region 1 with fail
  obtain ⟨cb, hcb⟩ : ∃ cb, w.heap.size = cb := ⟨_, rfl⟩
  obtain ⟨w1, hw1⟩ : ∃ w1, w.alloc (.cells #[.slice a0 no c0, .slice a1 nt c1] 25) = w1 := ⟨_, rfl⟩
  rw [hw1, hcb] at PB0
  rw [hw1] at N0
  rw [hw1, hcb]
  clear hw1 hcb
  obtain ⟨p0, p1, pf⟩ := box2 PB0.out
  have HB0 : ∃ b0 : Bool, b0 = (decide (64 < no) || decide (16 < nt)) := ⟨_, rfl⟩
  obtain ⟨b0, hb0⟩ := HB0
  go_cut [3] from 9 to 18 (fun v wx => v = .bool b0 ∧ wx = w1)
  case first =>
    by_cases d1 : 64 < no
    · have q1 : decide ((64 : Int) < (no : Int)) = true := by simp; omega
      have hb : b0 = true := by rw [hb0]; simp [d1]
      subst hb
      clear hb0 d1
      go_wp2_with fail
      go_meet
      exact ⟨rfl, rfl⟩
    · have q1 : decide ((64 : Int) < (no : Int)) = false := by simp; omega
      by_cases d2 : 16 < nt
      · have q2 : decide ((16 : Int) < (nt : Int)) = true := by simp; omega
        have hb : b0 = true := by rw [hb0]; simp [d2]
        subst hb
        clear hb0 d1 d2
        go_wp2_with fail
        go_meet
        exact ⟨rfl, rfl⟩
      · have q2 : decide ((16 : Int) < (nt : Int)) = false := by simp; omega
        have hb : b0 = false := by rw [hb0]; simp [d1, d2]
        subst hb
        clear hb0 d1 d2
        go_wp2_with fail
        go_meet
        exact ⟨rfl, rfl⟩
  case rest =>
  obtain ⟨hvc, hwc⟩ := hcut
  subst hvc
  have hwc2 := hwc.symm
  clear hwc
  subst hwc2
  have hr := HR.out
  rw [← hb0] at hr
  have HR := Lib.hid hr
  clear hr hb0
  go_wp2_with fail
  clear p0 p1 pf
  go_loopw [3, 22] (fun bv v wr => ∃ (k : Nat) (b : Bool), k ≤ no ∧ v = .int .i64 k ∧ bv = .bool b ∧ b = (b0 || (os.take k).any fun d => !objB os d) ∧ Nw w1 wr) (fun _ v _ => no - (intOf v).toNat)
  case atStart => exact ⟨0, b0, by omega, rfl, rfl, by simp, Nw.refl _⟩
  case round =>
    obtain ⟨k, b, hk, rfl, rfl, hb, hw⟩ := hrel
    have HW := Lib.hid hw
    have HB := Lib.hid hb
    clear hw hb
    have PB := Lib.hid (HW.out.at_ PB0.out)
    obtain ⟨p0, p1, pf⟩ := box2 PB.out
    have hpl := lt_of_block PB.out
    by_cases hkn : k < no
    · have q : decide ((k : Int) < (no : Int)) = true := by simp; omega
      have hkl : k < os.length := by have := NO.out; omega
      rcases H0.out wr (N0.out.trans HW.out) with ⟨a, -, e2⟩ | ⟨gv, ov, cap, e1, -, -, hgv, h3⟩
      · rw [e2] at NO; exact absurd NO.out (by simp; omega)
      obtain ⟨rfl, -, rfl⟩ : a0 = some ⟨gv, ov, none⟩ ∧ no = os.length ∧ c0 = cap := by simpa using e1
      obtain ⟨cs, -, hc, hd, -, -, hdn, -⟩ := h3 k hkl
      have hst := any_take_succ hkl (fun d => !objB os d)
      obtain ⟨d, hdd⟩ : ∃ d, os[k]'hkl = d := ⟨_, rfl⟩
      rw [hdd] at hd hdn hst
      subst hd
      have e0 := hc 0 (by simp)
      have e1' := hc 1 (by simp)
      have e2 := hc 2 (by simp)
      have e3 := hc 3 (by simp)
      have e4 := hc 4 (by simp)
      simp only [List.getElem_cons_zero, List.getElem_cons_succ, Nat.add_zero] at e0 e1' e2 e3 e4
      have hgl : gv < wr.heap.size := hgv
      obtain ⟨y, hy⟩ : ∃ y, objB os d = y := ⟨_, rfl⟩
      have hst2 : (b || !y) = (b0 || (os.take (k + 1)).any fun d => !objB os d) := by rw [HB.out, hst, hy, Bool.or_assoc]
      have CO := Lib.hid (fun (W : World) (hW : Nw w W) => by have := cobjG_ok (v1 := .slice a1 nt c1) (H0.out W hW) hdn; rw [hy] at this; exact this)
      have HST := Lib.hid hst2
      unfold dclA at CO
      clear hc h3 e1 hdd hgv hst hst2 hy hdn
      cases b with
      | true =>
        have N1 := Lib.hid (HW.out.trans ((Nw.refl wr).alloc (.cells #[.int .u8 (d.kind : Int), .string ⟨d.name.toArray⟩, .int .i64 d.n, .string ⟨d.of_.toArray⟩, .int .i64 d.line] 76)))
        simp only [Bool.true_or] at HST
        go_wp2_with fail
        exact ⟨⟨k + 1, true, by omega, by simp, rfl, HST.out, N1.out⟩, by simp [intOf]; omega⟩
      | false =>
        simp only [Bool.false_or] at HST
        go_wp2_with fail
        refine (CO.out _ (N0.out.trans (HW.out.trans ((Nw.refl wr).alloc _)))).mono ?_
        rintro z w2 ⟨rfl, n2⟩
        have N2 := Lib.hid (HW.out.trans (((Nw.refl wr).alloc (.cells #[.int .u8 (d.kind : Int), .string ⟨d.name.toArray⟩, .int .i64 d.n, .string ⟨d.of_.toArray⟩, .int .i64 d.line] 76)).trans n2))
        clear n2 CO
        go_wp2_with fail
        refine ⟨⟨k + 1, !y, by omega, by simp, rfl, HST.out, N2.out⟩, by simp [intOf]; omega⟩
    · have q : decide ((k : Int) < (no : Int)) = false := by simp; omega
      have hall := HB.out
      rw [List.take_of_length_le (by have := NO.out; omega)] at hall
      have hr := HR.out
      rw [← hall] at hr
      have HR := Lib.hid hr
      clear hall hr HB
      go_wp2_with fail
      clear p0 p1 pf hpl
      obtain ⟨b1, hb1⟩ : ∃ x, b = x := ⟨_, rfl⟩
      rw [hb1] at HR ⊢
      clear hb1
      go_loopw [3, 8, 37] (fun bv iv v wr => ∃ (k : Nat) (b : Bool), k ≤ nt ∧ v = .int .i64 k ∧ bv = .bool b ∧ b = (b1 || (ts.take k).any fun t => !textB os t) ∧ Nw w1 wr) (fun _ _ v _ => nt - (intOf v).toNat)
      case atStart => exact ⟨0, b1, by omega, rfl, rfl, by simp, HW.out⟩
      case round =>
        obtain ⟨k2, b, hk2, rfl, rfl, hb, hw⟩ := hrel
        have HW2 := Lib.hid hw
        have HB := Lib.hid hb
        clear hw hb HW PB
        have PB := Lib.hid (HW2.out.at_ PB0.out)
        obtain ⟨p0, p1, pf⟩ := box2 PB.out
        have hpl := lt_of_block PB.out
        by_cases hkn2 : k2 < nt
        · have q2 : decide ((k2 : Int) < (nt : Int)) = true := by simp; omega
          have hkl : k2 < ts.length := by have := NT.out; omega
          rcases H1.out wr (N0.out.trans HW2.out) with ⟨a, -, e2⟩ | ⟨gv, ov, cap, e1, -, -, hgv, h3⟩
          · rw [e2] at NT; exact absurd NT.out (by simp; omega)
          obtain ⟨rfl, -, rfl⟩ : a1 = some ⟨gv, ov, none⟩ ∧ nt = ts.length ∧ c1 = cap := by simpa using e1
          obtain ⟨cs, -, hc, hd⟩ := h3 k2 hkl
          have hst := any_take_succ hkl (fun t => !textB os t)
          have harg := HAR.out _ (List.getElem_mem hkl)
          obtain ⟨t, htt⟩ : ∃ d, ts[k2]'hkl = d := ⟨_, rfl⟩
          rw [htt] at hd hst harg
          have HD := Lib.hid (fun (W : World) (hW : Nw wr W) => hd.nw hW)
          obtain ⟨u1, u2, rfl, -, hd2, hd3⟩ := hd
          obtain ⟨l1, l2, rfl, -⟩ := hd2.len
          obtain ⟨l3, l4, rfl, hl4, hl4m, -⟩ := hd3.len
          have hl4' : l4 ≤ 9223372036854775807 := by unfold maxLen at hl4m; omega
          have e0 := hc 0 (by simp)
          have e1' := hc 1 (by simp)
          have e2 := hc 2 (by simp)
          simp only [List.getElem_cons_zero, List.getElem_cons_succ, Nat.add_zero] at e0 e1' e2
          have hgl : gv < wr.heap.size := hgv
          have HARG := Lib.hid harg
          obtain ⟨nl, hnl⟩ : ∃ n, t.locals.length = n := ⟨_, rfl⟩
          obtain ⟨nc, hnc⟩ : ∃ n, t.code.length = n := ⟨_, rfl⟩
          have NL := Lib.hid hnl
          have NC := Lib.hid hnc
          rw [textB_not, hnl, hnc] at hst
          have hst2 : (b || (decide (120 < nl) || decide (4000 < nc)) || t.code.any fun x => !insB os t x) = (b1 || (ts.take (k2 + 1)).any fun t => !textB os t) := by
            rw [hst, HB.out]
            simp only [Bool.or_assoc]
          have HST := Lib.hid hst2
          have HCO := Lib.hid (fun (W : World) (hW : Nw wr W) => hd3.nwR hW (fun _ _ h => isIns.nw h hW))
          rw [hnl] at e1' HD
          rw [hnc] at e2 hl4 HCO HD
          have HL4 := Lib.hid hl4
          have HL4' := Lib.hid hl4'
          clear hc h3 e1 htt hgv hd2 hd3 hst hst2 harg hnl hnc HB
          go_upto_region 10 with fail
          obtain ⟨wy, hwy⟩ : ∃ wy, wr.alloc (.cells #[.string ⟨t.name.toArray⟩, .slice l1 nl l2, .slice l3 nc l4] 73) = wy := ⟨_, rfl⟩
          obtain ⟨tb, htb⟩ : ∃ tb, wr.heap.size = tb := ⟨_, rfl⟩
          have NY : Nw wr wy := by rw [← hwy]; exact (Nw.refl wr).alloc _
          have NWY := Lib.hid NY
          have NX : Hid (Nw w1 wy) := Lib.hid (HW2.out.trans NY)
          have TBX : Hid (wy.heap[tb]? = some (.cells #[.string ⟨t.name.toArray⟩, .slice l1 nl l2, .slice l3 nc l4] 73 (0, 0))) := Lib.hid (by rw [← hwy, ← htb]; exact heap_alloc_new wr _)
          have CB := Lib.hid (NX.out.at_ PB0.out)
          rw [hwy, htb]
          clear hwy htb NY e0 e1' e2 hgl p0 p1 pf hpl PB
          obtain ⟨d0, d1, d2, df⟩ := box3 TBX.out
          obtain ⟨bt, hbt⟩ : ∃ x, (b || (decide (120 < nl) || decide (4000 < nc))) = x := ⟨_, rfl⟩
          rw [hbt] at HST
          go_cut [3] from 41 to 53 (fun v wz => v = .bool bt ∧ wz = wy)
          case first =>
            cases b with
            | true =>
              have hb : bt = true := by rw [← hbt]; simp
              subst hb
              clear hbt
              go_wp2_with fail
              go_meet
              exact ⟨rfl, rfl⟩
            | false =>
              by_cases c1 : 120 < nl
              · have u1 : decide ((120 : Int) < (nl : Int)) = true := by simp; omega
                have hb : bt = true := by rw [← hbt]; simp [c1]
                subst hb
                clear hbt c1
                go_wp2_with fail
                go_meet
                exact ⟨rfl, rfl⟩
              · have u1 : decide ((120 : Int) < (nl : Int)) = false := by simp; omega
                by_cases c2 : 4000 < nc
                · have u2 : decide ((4000 : Int) < (nc : Int)) = true := by simp; omega
                  have hb : bt = true := by rw [← hbt]; simp [c2]
                  subst hb
                  clear hbt c1 c2
                  go_wp2_with fail
                  go_meet
                  exact ⟨rfl, rfl⟩
                · have u2 : decide ((4000 : Int) < (nc : Int)) = false := by simp; omega
                  have hb : bt = false := by rw [← hbt]; simp [c1, c2]
                  subst hb
                  clear hbt c1 c2
                  go_wp2_with fail
                  go_meet
                  exact ⟨rfl, rfl⟩
          case rest =>
          obtain ⟨hvc, hwc⟩ := hcut
          subst hvc
          have hwc2 := hwc.symm
          clear hwc
          subst hwc2
          clear hbt
          go_wp2_with fail
          clear d0 d1 d2 df
          have HDY := Lib.hid (fun (W : World) (hW : Nw wy W) => HD.out W (NWY.out.trans hW))
          have HCOY := Lib.hid (fun (W : World) (hW : Nw wy W) => HCO.out W (NWY.out.trans hW))
          clear HD HCO NWY
          go_loopw [3, 8] (fun bv v wr => ∃ (i : Nat) (b : Bool), i ≤ nc ∧ v = .int .i64 i ∧ bv = .bool b ∧ b = (bt || (t.code.take i).any fun x => !insB os t x) ∧ Nw wy wr) (fun bv v _ => (nc - (intOf v).toNat) + (nc + 1) * 0)
          case atStart => exact ⟨0, bt, by omega, rfl, rfl, by simp, Nw.refl _⟩
          case round =>
            obtain ⟨i, b2, hi, rfl, rfl, hb, hw⟩ := hrel
            have HWQ := Lib.hid hw
            have HB2 := Lib.hid hb
            clear hw hb
            have CBQ := Lib.hid (HWQ.out.at_ CB.out)
            have TBQ := Lib.hid (HWQ.out.at_ TBX.out)
            have WWW : Hid (Nw w wr) := Lib.hid (N0.out.trans (NX.out.trans HWQ.out))
            obtain ⟨d0, d1, d2, df⟩ := box3 TBQ.out
            by_cases hin : i < nc
            · have q3 : decide ((i : Int) < (nc : Int)) = true := by simp; omega
              cases b2 with
              | true =>
                have hfin : true = (bt || t.code.any fun x => !insB os t x) := by
                  have h := HB2.out
                  cases bt with
                  | true => rfl
                  | false =>
                    rw [Bool.false_or] at h ⊢
                    rw [← List.take_append_drop i t.code, List.any_append, ← h, Bool.true_or]
                have hst := HST.out
                rw [← hfin] at hst
                have HST2 := Lib.hid hst
                clear hfin hst
                go_wp2_with fail
                refine ⟨⟨k2 + 1, true, by omega, by simp, rfl, HST2.out, NX.out.trans HWQ.out⟩, by simp [intOf]; omega⟩
              | false =>
                have hil : i < t.code.length := by have := NC.out; omega
                rcases HCOY.out wr HWQ.out with ⟨a, -, e2⟩ | ⟨gc, oc, cap, e1, -, -, hgc, h3⟩
                · rw [e2] at NC; exact absurd NC.out (by simp; omega)
                obtain ⟨rfl, -, rfl⟩ : l3 = some ⟨gc, oc, none⟩ ∧ nc = t.code.length ∧ l4 = cap := by simpa using e1
                obtain ⟨cs, -, hc, hx⟩ := h3 i hil
                have hst := any_take_succ hil (fun x => !insB os t x)
                have harg := HARG.out _ (List.getElem_mem hil)
                obtain ⟨x, hxx⟩ : ∃ x, t.code[i]'hil = x := ⟨_, rfl⟩
                rw [hxx] at hx hst harg
                have hst2 : (!insB os t x) = (bt || (t.code.take (i + 1)).any fun x => !insB os t x) := by
                  rw [any_take_succ hil, hxx, ← Bool.or_assoc, ← HB2.out, Bool.false_or]
                have HX := Lib.hid (fun (W : World) (hW : Nw wr W) => hx.nw hW)
                obtain ⟨xdo, xop, xobj, xin, xto, xn, xargs⟩ := x
                obtain ⟨v6, rfl, -, -, -, -, -, -, hv6⟩ := hx
                obtain ⟨a6, c6, rfl, -⟩ := RdK.len hv6
                have HAX := Lib.hid (fun (W : World) (hW : Nw wr W) => ExsM.nw hv6 hW)
                obtain ⟨na, hna⟩ : ∃ n, xargs.length = n := ⟨_, rfl⟩
                simp only [hna] at hc HX HAX
                have I0 := Lib.hid (hc 0 (by simp))
                have I1 := Lib.hid (hc 1 (by simp))
                have I2 := Lib.hid (hc 2 (by simp))
                have I3 := Lib.hid (hc 3 (by simp))
                have I4 := Lib.hid (hc 4 (by simp))
                have I5 := Lib.hid (hc 5 (by simp))
                have I6 := Lib.hid (hc 6 (by simp))
                simp only [List.getElem_cons_zero, List.getElem_cons_succ, Nat.add_zero] at I0 I1 I2 I3 I4 I5 I6
                have HK := Lib.hid hin
                have HC2 : Hid (nc ≤ 9223372036854775807) := Lib.hid (by have := HL4.out; have := HL4'.out; omega)
                have GL := Lib.hid hgc
                have HST3 := Lib.hid hst2
                obtain ⟨mb, hmb⟩ : ∃ m, mayB os t ⟨xdo, xop, xobj, xin, xto, xn, xargs⟩ = m := ⟨_, rfl⟩
                have HMAY : Hid (∀ W, Nw wr W → Calls Tryz.prog 82 #[.agg #[.slice a0 no c0, .slice (some ⟨gv, ov, none⟩) nt c1], .agg #[.string ⟨t.name.toArray⟩, .slice l1 nl l2, .slice (some ⟨gc, oc, none⟩) nc l4], .agg #[.int .u8 (xdo : Int), .int .u8 (xop : Int), .int .i64 xobj, .int .i64 xin, .int .i64 xto, .int .i64 xn, .slice a6 na c6]] W fun z w' => z = .returned (.bool mb) ∧ Nw W w') := Lib.hid fun W hW => by
                  have h := cmay_ok (v1 := .slice (some ⟨gv, ov, none⟩) nt c1) (HM.out W (WWW.out.trans hW)) (H0.out W (WWW.out.trans hW)) (HDY.out W (HWQ.out.trans hW)) (HX.out W hW) harg
                  rw [hmb] at h
                  exact h
                obtain ⟨sb, hsb⟩ : ∃ s, (xargs.any fun e => !soundB nl e) = s := ⟨_, rfl⟩
                have HCF : Hid (∀ W, Nw wr W → Calls Tryz.prog 83 #[.slice a6 na c6, .func (.func 84) #[] #[.pointer (some ⟨tb, 0, none⟩)]] W fun z w' => z = .returned (.bool sb) ∧ Nw W w') := Lib.hid fun W hW => by
                  have h := ccont_ok (HM.out W (WWW.out.trans hW)) (hW.at_ TBQ.out) (HAX.out W hW)
                  rw [hsb] at h
                  exact h
                have hib : (!insB os t ⟨xdo, xop, xobj, xin, xto, xn, xargs⟩) = (!mb || sb) := by
                  unfold insB
                  rw [hmb, Bool.not_and, ← any_sound, NL.out, hsb]
                rw [hib] at HST3
                clear hc h3 e1 hxx hgc hv6 hst hst2 harg hmb hsb hib hna HB2
                go_upto_region 14 with fail
                clear d0 d1 d2 df
                cases mb with
                | true =>
                  simp only [Bool.not_true, Bool.false_or] at HST3
                  refine ck14t CBQ TBQ HK HC2 GL I0 I1 I2 I3 I4 I5 I6 HMAY HCF ?_
                  intro s3 s65 s66 s67 s68 s69 s70 s71 s72 s73 s74 s75 s76 s77 s78 s79 s80 s81 s82 s83 wp np hs3
                  subst hs3
                  have NP := Lib.hid (HWQ.out.trans np)
                  clear np
                  go_wp2_with fail
                  exact ⟨⟨i + 1, sb, by omega, by simp, rfl, HST3.out, NP.out⟩, by simp [intOf]; omega⟩
                | false =>
                  simp only [Bool.not_false, Bool.true_or] at HST3
                  refine ck14f CBQ TBQ HK HC2 GL I0 I1 I2 I3 I4 I5 I6 HMAY ?_
                  intro s3 s65 s66 s67 s68 s69 s70 s71 s72 s73 s74 s75 s76 s77 s78 s79 s80 s81 s82 s83 wp np hs3
                  subst hs3
                  have NP := Lib.hid (HWQ.out.trans np)
                  clear np
                  go_wp2_with fail
                  exact ⟨⟨i + 1, true, by omega, by simp, rfl, HST3.out, NP.out⟩, by simp [intOf]; omega⟩
            · have q3 : decide ((i : Int) < (nc : Int)) = false := by simp; omega
              have hall := HB2.out
              rw [List.take_of_length_le (by have := NC.out; omega)] at hall
              have hst := HST.out
              rw [← hall] at hst
              have HST2 := Lib.hid hst
              clear hall hst HB2
              go_wp2_with fail
              refine ⟨⟨k2 + 1, b2, by omega, by simp, rfl, HST2.out, NX.out.trans HWQ.out⟩, by simp [intOf]; omega⟩
        · have q2 : decide ((k2 : Int) < (nt : Int)) = false := by simp; omega
          have hall := HB.out
          rw [List.take_of_length_le (by have := NT.out; omega)] at hall
          have hr := HR.out
          rw [← hall] at hr
          subst hr
          clear hall HB
          cases b with
          | true =>
            go_wp2_with fail
            go_ret
            exact ⟨rfl, N0.out.trans HW2.out⟩
          | false =>
            go_wp2_with fail
            go_ret
            exact ⟨rfl, N0.out.trans HW2.out⟩
end Go.Proofs.YtcmaedoolinijaaGreatDoor
