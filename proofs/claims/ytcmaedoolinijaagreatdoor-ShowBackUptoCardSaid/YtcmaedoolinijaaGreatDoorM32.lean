/-
  Texts merged by a program of this claim's: ShowZ.
-/
import Derived.Test.YtcmaedoolinijaaGreatDoorM31
import Derived.Deep.DeepCutAuto
namespace Go.Proofs.YtcmaedoolinijaaGreatDoor
open Go Go.RowKit Go.Sort
set_option maxRecDepth 100000
set_option maxHeartbeats 6400000
theorem cnt_ok {w : World} (t : List UInt8) : Calls Tryz.prog 14 #[.string ⟨t.toArray⟩, .string ⟨#[10]⟩] w fun z w' => z = .returned (.int .i64 ((t.count 10 : Nat) : Int)) ∧ w' = w :=
  (Tryz.strings_Count_one ⟨t.toArray⟩ 10 w).mono (by
    rintro z w' ⟨rfl, rfl⟩
    exact ⟨rfl, rfl⟩)
theorem ShowBack_ok {w : World} (hT : STab w) {v0 v1 v : Value} {c : CodeP} {l : List Ev} {s : List UInt8} (h : CodeM w [v0, v1] c) (hargs : ∀ t ∈ c.threads, ∀ x ∈ t.code, x.args.length ≤ 1048576) (hv : RdK 5 isEv w v l) (hs : s.length ≤ 9223372036854775807) :
    Calls Tryz.prog 4 #[.agg #[v0, v1], v, .string ⟨s.toArray⟩] w fun z w' => z = .returned (.bool true) ∧ Nw w w' := by
  obtain ⟨a0, c0, a1, c1, rfl, rfl, -, -⟩ := h.lens
  obtain ⟨a2, c2, rfl, hc2, hm2, -⟩ := hv.len
  have hm2' : c2 ≤ 9223372036854775807 := by unfold maxLen at hm2; omega
  have LG := Lib.hid (fun W (hW : Nw w W) => long_any (h.nw hW))
  have AW := Lib.hid (fun W (hW : Nw w W) => awake24_ok (hT.nw hW))
  have TX := Lib.hid (fun (W : World) (hW : Nw w W) (u : Value) (m : List Ev) (hu : RdK 5 isEv W u m) (hn : m.length ≤ 1000000) => Text_ok (hT.nw hW) (h.nw hW) hargs hu hn)
  have EV := Lib.hid (fun (W : World) (hW : Nw w W) (t : List UInt8) (ht : t.length ≤ 1000000000) => Events_ok (hT.nw hW) (h.nw hW) hargs ht)
  have HV := Lib.hid (fun W (hW : Nw w W) => hv.nw hW)
  have HOK := Lib.hid (RdK.ok hv)
  obtain ⟨no, hno⟩ : ∃ n, c.objs.length = n := ⟨_, rfl⟩
  obtain ⟨nt, hnt⟩ : ∃ n, c.threads.length = n := ⟨_, rfl⟩
  obtain ⟨n, hnn⟩ : ∃ n, l.length = n := ⟨_, rfl⟩
  have NN := Lib.hid hnn
  rw [hno, hnt] at LG TX EV ⊢
  rw [hnn] at HV hc2 ⊢
  have N0 := Lib.hid ((Nw.refl w).alloc (.cells #[.slice a0 no c0, .slice a1 nt c1] 25))
  have PB := Lib.hid (heap_alloc_new w (.cells #[.slice a0 no c0, .slice a1 nt c1] 25))
  clear hT h hargs hv hno hnt hnn hm2
  go_enter Tryz.func4, Tryz.ntmps4
  go_wp2_with fail
  refine (LG.out _ N0.out).mono ?_
  rintro z w1 ⟨⟨lb, rfl⟩, n1⟩
  have N1 := Lib.hid (N0.out.trans n1)
  obtain ⟨cb, hcb⟩ : ∃ cb, w.heap.size = cb := ⟨_, rfl⟩
  have P1 := Lib.hid (n1.at_ PB.out)
  rw [hcb] at P1 ⊢
  clear n1 hcb LG
  have short : (lb = true ∨ (2000 < s.length)) ∨ (lb = false ∧ s.length ≤ 2000) := by cases lb <;> simp <;> omega
  rcases short with hsh | ⟨hlb, hs2⟩
  · cases lb with
    | true =>
      go_wp2_with fail
      refine (AW.out _ N1.out).mono ?_
      rintro z w2 ⟨rfl, n2⟩
      have N2 := Lib.hid (N1.out.trans n2)
      clear n2
      go_wp2_with fail
      go_ret
      exact ⟨rfl, N2.out⟩
    | false =>
      have h2 : 2000 < s.length := by simpa using hsh
      have q2 : decide ((2000 : Int) < (s.length : Int)) = true := by simp; omega
      go_wp2_with fail
      refine (AW.out _ N1.out).mono ?_
      rintro z w2 ⟨rfl, n2⟩
      have N2 := Lib.hid (N1.out.trans n2)
      clear n2
      go_wp2_with fail
      go_ret
      exact ⟨rfl, N2.out⟩
  subst hlb
  have q2 : decide ((2000 : Int) < (s.length : Int)) = false := by simp; omega
  have HS2 := Lib.hid hs2
  obtain ⟨m, hm⟩ : ∃ m, min n 60 = m := ⟨_, rfl⟩
  have hmin : min (n : Int) 60 = (m : Int) := by omega
  have hmn : m ≤ n := by omega
  have hm60 : m ≤ 60 := by omega
  have hmc : m ≤ c2 := by omega
  have RL := Lib.hid (fun W (hW : Nw w W) => (HV.out W hW).take hmn)
  have ML : Hid ((l.take m).length = m) := Lib.hid (by rw [List.length_take, NN.out]; omega)
  have LOK : Hid (∀ e ∈ l.take m, e.Ok) := Lib.hid (fun e he => HOK.out e (List.mem_of_mem_take he))
  obtain ⟨l', hl'⟩ : ∃ x, l.take m = x := ⟨_, rfl⟩
  rw [hl'] at RL ML LOK
  clear hl' hm hs2 HV HOK NN
  obtain ⟨p0, p1, pf⟩ := box2 P1.out
  have hpl := lt_of_block P1.out
  have M60 := Lib.hid hm60
  go_upto_region 4 with fail
  have T1 := Lib.hid (TX.out w1 N1.out (.slice a2 m c2) l' (RL.out w1 N1.out) (by rw [ML.out]; omega))
  obtain ⟨⟨t1, e1⟩, ht1⟩ : ∃ x, textS c l' = x := ⟨_, rfl⟩
  rw [ht1] at T1
  simp only at T1
  have HT1 := Lib.hid ht1
  clear ht1 hmin hmn hmc hm60 q2
  go_wp2_with fail
  refine T1.out.mono ?_
  rintro z w2 ⟨rfl, n2⟩
  have N2 := Lib.hid (N1.out.trans n2)
  have P2 := Lib.hid (n2.at_ P1.out)
  clear n2 T1 p0 p1 pf hpl
  obtain ⟨p0, p1, pf⟩ := box2 P2.out
  have hpl := lt_of_block P2.out
  have E2 := Lib.hid (fun (W : World) (hW : Nw w W) => EV.out W hW s (by have := HS2.out; omega))
  have B2 := Lib.hid (back2 c s)
  obtain ⟨⟨m2, k2, z2⟩, hev2⟩ : ∃ x, evsS c s = x := ⟨_, rfl⟩
  rw [hev2] at E2 B2
  simp only at E2 B2
  clear hev2
  by_cases c1 : e1 = 0
  · have q1 : (e1 == 0) = true := by simp [c1]
    obtain ⟨hb1, hb2, hb3⟩ := back1 (by rw [HT1.out, c1]) LOK.out
    have E1 := Lib.hid (fun (W : World) (hW : Nw w W) => EV.out W hW t1 (by have := ML.out; have := M60.out; omega))
    rw [hb1] at E1
    simp only at E1
    have CT : Hid (∀ W, Calls Tryz.prog 14 #[.string ⟨t1.toArray⟩, .string ⟨#[10]⟩] W fun z w' => z = .returned (.int .i64 (m : Int)) ∧ w' = W) := Lib.hid (fun W => by have := cnt_ok (w := W) t1; rw [hb2, ML.out] at this; exact this)
    clear hb1 hb2 hb3 c1 HT1
    go_wp2_with fail
    refine (E1.out _ N2.out).mono ?_
    rintro z w3 ⟨ov1, rfl, ho3, n3⟩
    have N3 := Lib.hid (N2.out.trans n3)
    have P3 := Lib.hid (n3.at_ P2.out)
    have O3 := Lib.hid ho3
    obtain ⟨oa1, oc1, rfl, -, hocm1, -⟩ := ho3.len
    have hoc1 : oc1 ≤ 9223372036854775807 := by unfold maxLen at hocm1; omega
    rw [ML.out] at O3 ⊢
    clear n3 p0 p1 pf hpl ho3 hocm1 E1
    unfold fltA
    go_upto_region 7 with fail
    obtain ⟨w4, hw4⟩ : ∃ w4, w3.alloc (.cells #[.int .i64 0, .int .i64 0] 43) = w4 := ⟨_, rfl⟩
    obtain ⟨fb1, hfb1⟩ : ∃ fb, w3.heap.size = fb := ⟨_, rfl⟩
    have n4 : Nw w3 w4 := by rw [← hw4]; exact (Nw.refl w3).alloc _
    have F4 : Hid (w4.heap[fb1]? = some (.cells #[.int .i64 0, .int .i64 0] 43 (0, 0))) := Lib.hid (by rw [← hw4, ← hfb1]; exact heap_alloc_new w3 _)
    have N4 := Lib.hid (N3.out.trans n4)
    have P4 := Lib.hid (n4.at_ P3.out)
    have SE := Lib.hid (SameEv17_ok (RL.out w4 N4.out) (O3.out.nw n4))
    rw [hw4, hfb1]
    clear hw4 hfb1 n4
    obtain ⟨g0, g1, gf⟩ := box2 F4.out
    go_wp2_with fail
    refine SE.out.mono ?_
    rintro z wx ⟨rfl, nx⟩
    have NX := Lib.hid (N4.out.trans nx)
    have PX := Lib.hid (nx.at_ P4.out)
    clear nx SE g0 g1 gf
    go_wp2_with fail
    refine (CT.out wx).mono ?_
    rintro z wx' ⟨rfl, rfl⟩
    obtain ⟨p0, p1, pf⟩ := box2 PX.out
    have hpl := lt_of_block PX.out
    have qmm : ((m : Int) != (m : Int)) = false := by simp
    go_wp2_with fail
    refine (E2.out _ NX.out).mono ?_
    rintro z w5 ⟨ov, rfl, ho5, n5⟩
    have N5 := Lib.hid (NX.out.trans n5)
    have P5 := Lib.hid (n5.at_ PX.out)
    have O5 := Lib.hid ho5
    obtain ⟨oa, oc, rfl, -, hocm, -⟩ := ho5.len
    have hoc : oc ≤ 9223372036854775807 := by unfold maxLen at hocm; omega
    clear n5 p0 p1 pf hpl ho5 hocm
    unfold fltA
    go_upto_region 10 with fail
    obtain ⟨w6, hw6⟩ : ∃ w6, w5.alloc (.cells #[.int .i64 k2, .int .i64 z2] 43) = w6 := ⟨_, rfl⟩
    obtain ⟨fb, hfb⟩ : ∃ fb, w5.heap.size = fb := ⟨_, rfl⟩
    have n6 : Nw w5 w6 := by rw [← hw6]; exact (Nw.refl w5).alloc _
    have F6 : Hid (w6.heap[fb]? = some (.cells #[.int .i64 k2, .int .i64 z2] 43 (0, 0))) := Lib.hid (by rw [← hw6, ← hfb]; exact heap_alloc_new w5 _)
    have N6 := Lib.hid (N5.out.trans n6)
    have P6 := Lib.hid (n6.at_ P5.out)
    have O6 := Lib.hid (O5.out.nw n6)
    have ML2 : Hid (∃ x, m2.length = x) := Lib.hid ⟨_, rfl⟩
    rw [hw6, hfb]
    clear hw6 hfb n6
    obtain ⟨p0, p1, pf⟩ := box2 P6.out
    obtain ⟨f0, f1, ff⟩ := box2 F6.out
    rcases B2.out with ⟨hk2, hm2, hkz⟩ | ⟨hk2, htx2, hml2⟩
    · have hm0 : m2.length = 0 := by rw [hm2]; rfl
      have hne : (k2 != 0) = true := by simp [hk2]
      have hkk : ((k2 == 120) == (z2 == 0)) = true := by
        by_cases a : k2 = 120
        · have := hkz.1 a; simp [a, this]
        · have b : ¬ z2 = 0 := fun e => a (hkz.2 e)
          rw [beq_eq_false_iff_ne.2 a, beq_eq_false_iff_ne.2 b]; rfl
      have HKK := Lib.hid hkk
      obtain ⟨y1, hy1⟩ : ∃ y, (k2 == 120) = y := ⟨_, rfl⟩
      obtain ⟨y2, hy2⟩ : ∃ y, (z2 == 0) = y := ⟨_, rfl⟩
      rw [hy1, hy2] at hkk
      have hyy : y1 = y2 := by simpa using hkk
      subst hyy
      have hbb : (y1 == y1) = true := by simp
      have hal := hm0
      clear hkz hk2 hm2 hkk HKK B2
      rw [hm0]
      go_wp2_with fail
      refine (AW.out _ N6.out).mono ?_
      rintro z w7 ⟨rfl, n7⟩
      have N7 := Lib.hid (N6.out.trans n7)
      clear n7
      go_wp2_with fail
      go_ret
      exact ⟨rfl, N7.out⟩
    · subst hk2
      have T6 := Lib.hid (TX.out w6 N6.out _ m2 O6.out (by have := HS2.out; omega))
      rw [htx2] at T6
      simp only at T6
      clear htx2 hml2 B2
      go_wp2_with fail
      refine T6.out.mono ?_
      rintro z w7 ⟨rfl, n7⟩
      have N7 := Lib.hid (N6.out.trans n7)
      clear n7 T6 p0 p1 pf f0 f1 ff
      go_wp2_with fail
      refine (AW.out _ N7.out).mono ?_
      rintro z w8 ⟨rfl, n8⟩
      have N8 := Lib.hid (N7.out.trans n8)
      clear n8
      go_wp2_with fail
      go_ret
      exact ⟨rfl, N8.out⟩
  · have q1 : (e1 == 0) = false := by simp [c1]
    have NX := N2
    have PX := P2
    go_wp2_with fail
    refine (E2.out _ NX.out).mono ?_
    rintro z w5 ⟨ov, rfl, ho5, n5⟩
    have N5 := Lib.hid (NX.out.trans n5)
    have P5 := Lib.hid (n5.at_ PX.out)
    have O5 := Lib.hid ho5
    obtain ⟨oa, oc, rfl, -, hocm, -⟩ := ho5.len
    have hoc : oc ≤ 9223372036854775807 := by unfold maxLen at hocm; omega
    clear n5 p0 p1 pf hpl ho5 hocm
    unfold fltA
    go_upto_region 10 with fail
    obtain ⟨w6, hw6⟩ : ∃ w6, w5.alloc (.cells #[.int .i64 k2, .int .i64 z2] 43) = w6 := ⟨_, rfl⟩
    obtain ⟨fb, hfb⟩ : ∃ fb, w5.heap.size = fb := ⟨_, rfl⟩
    have n6 : Nw w5 w6 := by rw [← hw6]; exact (Nw.refl w5).alloc _
    have F6 : Hid (w6.heap[fb]? = some (.cells #[.int .i64 k2, .int .i64 z2] 43 (0, 0))) := Lib.hid (by rw [← hw6, ← hfb]; exact heap_alloc_new w5 _)
    have N6 := Lib.hid (N5.out.trans n6)
    have P6 := Lib.hid (n6.at_ P5.out)
    have O6 := Lib.hid (O5.out.nw n6)
    have ML2 : Hid (∃ x, m2.length = x) := Lib.hid ⟨_, rfl⟩
    rw [hw6, hfb]
    clear hw6 hfb n6
    obtain ⟨p0, p1, pf⟩ := box2 P6.out
    obtain ⟨f0, f1, ff⟩ := box2 F6.out
    rcases B2.out with ⟨hk2, hm2, hkz⟩ | ⟨hk2, htx2, hml2⟩
    · have hm0 : m2.length = 0 := by rw [hm2]; rfl
      have hne : (k2 != 0) = true := by simp [hk2]
      have hkk : ((k2 == 120) == (z2 == 0)) = true := by
        by_cases a : k2 = 120
        · have := hkz.1 a; simp [a, this]
        · have b : ¬ z2 = 0 := fun e => a (hkz.2 e)
          rw [beq_eq_false_iff_ne.2 a, beq_eq_false_iff_ne.2 b]; rfl
      have HKK := Lib.hid hkk
      obtain ⟨y1, hy1⟩ : ∃ y, (k2 == 120) = y := ⟨_, rfl⟩
      obtain ⟨y2, hy2⟩ : ∃ y, (z2 == 0) = y := ⟨_, rfl⟩
      rw [hy1, hy2] at hkk
      have hyy : y1 = y2 := by simpa using hkk
      subst hyy
      have hbb : (y1 == y1) = true := by simp
      have hal := hm0
      clear hkz hk2 hm2 hkk HKK B2
      rw [hm0]
      go_wp2_with fail
      refine (AW.out _ N6.out).mono ?_
      rintro z w7 ⟨rfl, n7⟩
      have N7 := Lib.hid (N6.out.trans n7)
      clear n7
      go_wp2_with fail
      go_ret
      exact ⟨rfl, N7.out⟩
    · subst hk2
      have T6 := Lib.hid (TX.out w6 N6.out _ m2 O6.out (by have := HS2.out; omega))
      rw [htx2] at T6
      simp only at T6
      clear htx2 hml2 B2
      go_wp2_with fail
      refine T6.out.mono ?_
      rintro z w7 ⟨rfl, n7⟩
      have N7 := Lib.hid (N6.out.trans n7)
      clear n7 T6 p0 p1 pf f0 f1 ff
      go_wp2_with fail
      refine (AW.out _ N7.out).mono ?_
      rintro z w8 ⟨rfl, n8⟩
      have N8 := Lib.hid (N7.out.trans n8)
      clear n8
      go_wp2_with fail
      go_ret
      exact ⟨rfl, N8.out⟩
end Go.Proofs.YtcmaedoolinijaaGreatDoor
