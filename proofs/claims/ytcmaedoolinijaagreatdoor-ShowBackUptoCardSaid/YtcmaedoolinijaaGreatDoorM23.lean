/-
  Texts merged by a program of this claim's: CkA.
-/
import Derived.Test.YtcmaedoolinijaaGreatDoorM22
import Derived.Deep.DeepCutAuto
namespace Go.Proofs.YtcmaedoolinijaaGreatDoor
open Go Go.RowKit Go.Sort
set_option maxRecDepth 100000
set_option maxHeartbeats 3200000
theorem cobjG_ok {w : World} {v0 v1 : Value} {os : List Dcl} (h0 : RdK 5 isDcl w v0 os) {d : Dcl} (hd : in64' d.n) :
    Calls Tryz.prog 81 #[.agg #[v0, v1], .agg (dclA d)] w fun z w' => z = .returned (.bool (objB os d)) ∧ Nw w w' := by
  obtain ⟨a0, c0, rfl, hc0, hm0, -⟩ := h0.len
  obtain ⟨kd, nm, n, of_, li⟩ := d
  simp only at hd
  have hm0' : c0 ≤ 9223372036854775807 := by unfold maxLen at hm0; omega
  have TB := two_blk w #[.slice a0 os.length c0, v1] (dclA ⟨kd, nm, n, of_, li⟩) 25 76
  obtain ⟨no, hno⟩ : ∃ n, os.length = n := ⟨_, rfl⟩
  have NO := Lib.hid hno
  obtain ⟨r, hr⟩ : ∃ r, objB os ⟨kd, nm, n, of_, li⟩ = r := ⟨_, rfl⟩
  rw [hr]
  unfold objB at hr
  simp only at hr
  rw [hno] at h0 hc0 TB hr ⊢
  unfold dclA at TB ⊢
  have TBH := Lib.hid TB
  have H00 := Lib.hid h0
  clear TB h0 hno
  go_enter Tryz.func81, Tryz.ntmps81
  go_upto_region 1 with fail
  obtain ⟨w2, hw2⟩ : ∃ w2, ((w.alloc (.cells #[.slice a0 no c0, v1] 25)).alloc (.cells #[.int .u8 (kd : Int), .string ⟨nm.toArray⟩, .int .i64 n, .string ⟨of_.toArray⟩, .int .i64 li] 76)) = w2 := ⟨_, rfl⟩
  have TB := TBH.out
  rw [hw2] at TB
  rw [hw2]
  have T := Lib.hid TB
  have H0 := Lib.hid (H00.out.nw TB.1)
  clear hw2 TB TBH H00
  obtain ⟨p0, p1, pf⟩ := box2 T.out.2.1
  obtain ⟨d0, d1, d2, d3, d4, df⟩ := box5 T.out.2.2
  by_cases k1 : kd = 1
  · subst k1
    by_cases c1 : n = 0
    · subst c1
      have hr0 : r = true := by rw [← hr]; simp
      subst hr0
      clear hr
      go_wp2_with fail
      go_ret
      exact ⟨rfl, T.out.1⟩
    · have u1 : (n == 0) = false := by simp; omega
      have hr0 : r = false := by rw [← hr]; simp [c1]
      subst hr0
      clear hr
      go_wp2_with fail
      go_ret
      exact ⟨rfl, T.out.1⟩
  have q1 : ((kd : Int) == 1) = false := by simp; omega
  by_cases k2 : kd = 2
  · subst k2
    by_cases c1 : n = 0
    · subst c1
      have hr0 : r = true := by rw [← hr]; simp
      subst hr0
      clear hr
      go_wp2_with fail
      go_ret
      exact ⟨rfl, T.out.1⟩
    · have u1 : (n == 0) = false := by simp; omega
      have hr0 : r = false := by rw [← hr]; simp [c1]
      subst hr0
      clear hr
      go_wp2_with fail
      go_ret
      exact ⟨rfl, T.out.1⟩
  have q2 : ((kd : Int) == 2) = false := by simp; omega
  by_cases k6 : kd = 6
  · subst k6
    by_cases c1 : n = 0
    · subst c1
      have hr0 : r = true := by rw [← hr]; simp
      subst hr0
      clear hr
      go_wp2_with fail
      go_ret
      exact ⟨rfl, T.out.1⟩
    · have u1 : (n == 0) = false := by simp; omega
      have hr0 : r = false := by rw [← hr]; simp [c1]
      subst hr0
      clear hr
      go_wp2_with fail
      go_ret
      exact ⟨rfl, T.out.1⟩
  have q6 : ((kd : Int) == 6) = false := by simp; omega
  by_cases k7 : kd = 7
  · subst k7
    by_cases c1 : n = 0
    · subst c1
      have hr0 : r = true := by rw [← hr]; simp
      subst hr0
      clear hr
      go_wp2_with fail
      go_ret
      exact ⟨rfl, T.out.1⟩
    · have u1 : (n == 0) = false := by simp; omega
      have hr0 : r = false := by rw [← hr]; simp [c1]
      subst hr0
      clear hr
      go_wp2_with fail
      go_ret
      exact ⟨rfl, T.out.1⟩
  have q7 : ((kd : Int) == 7) = false := by simp; omega
  by_cases k3 : kd = 3
  · subst k3
    by_cases c1 : 1 ≤ n
    · have u1 : decide ((1 : Int) ≤ n) = true := by simp; omega
      by_cases c2 : n ≤ 1048576
      · have u2 : decide (n ≤ 1048576) = true := by simp; omega
        have hr0 : r = true := by rw [← hr]; simp [c1, c2]
        subst hr0
        clear hr
        go_wp2_with fail
        go_ret
        exact ⟨rfl, T.out.1⟩
      · have u2 : decide (n ≤ 1048576) = false := by simp; omega
        have hr0 : r = false := by rw [← hr]; simp [c1, c2]
        subst hr0
        clear hr
        go_wp2_with fail
        go_ret
        exact ⟨rfl, T.out.1⟩
    · have u1 : decide ((1 : Int) ≤ n) = false := by simp; omega
      have hr0 : r = false := by rw [← hr]; simp [c1]
      subst hr0
      clear hr
      go_wp2_with fail
      go_ret
      exact ⟨rfl, T.out.1⟩
  have q3 : ((kd : Int) == 3) = false := by simp; omega
  by_cases k8 : kd = 8
  · subst k8
    by_cases c1 : 1 ≤ n
    · have u1 : decide ((1 : Int) ≤ n) = true := by simp; omega
      by_cases c2 : n ≤ 1048576
      · have u2 : decide (n ≤ 1048576) = true := by simp; omega
        have hr0 : r = true := by rw [← hr]; simp [c1, c2]
        subst hr0
        clear hr
        go_wp2_with fail
        go_ret
        exact ⟨rfl, T.out.1⟩
      · have u2 : decide (n ≤ 1048576) = false := by simp; omega
        have hr0 : r = false := by rw [← hr]; simp [c1, c2]
        subst hr0
        clear hr
        go_wp2_with fail
        go_ret
        exact ⟨rfl, T.out.1⟩
    · have u1 : decide ((1 : Int) ≤ n) = false := by simp; omega
      have hr0 : r = false := by rw [← hr]; simp [c1]
      subst hr0
      clear hr
      go_wp2_with fail
      go_ret
      exact ⟨rfl, T.out.1⟩
  have q8 : ((kd : Int) == 8) = false := by simp; omega
  by_cases k5 : kd = 5
  · subst k5
    by_cases c1 : 1 ≤ n
    · have u1 : decide ((1 : Int) ≤ n) = true := by simp; omega
      by_cases c2 : n ≤ 16
      · have u2 : decide (n ≤ 16) = true := by simp; omega
        have hr0 : r = true := by rw [← hr]; simp [c1, c2]
        subst hr0
        clear hr
        go_wp2_with fail
        go_ret
        exact ⟨rfl, T.out.1⟩
      · have u2 : decide (n ≤ 16) = false := by simp; omega
        have hr0 : r = false := by rw [← hr]; simp [c1, c2]
        subst hr0
        clear hr
        go_wp2_with fail
        go_ret
        exact ⟨rfl, T.out.1⟩
    · have u1 : decide ((1 : Int) ≤ n) = false := by simp; omega
      have hr0 : r = false := by rw [← hr]; simp [c1]
      subst hr0
      clear hr
      go_wp2_with fail
      go_ret
      exact ⟨rfl, T.out.1⟩
  have q5 : ((kd : Int) == 5) = false := by simp; omega
  by_cases k4 : kd = 4
  · subst k4
    by_cases c1 : 0 ≤ n
    · have u1 : decide ((0 : Int) ≤ n) = true := by simp; omega
      obtain ⟨k, rfl⟩ := Int.eq_ofNat_of_zero_le c1
      by_cases c2 : k < no
      · have u2 : decide ((k : Int) < (no : Int)) = true := by simp; omega
        have hkl : k < os.length := by have := NO.out; omega
        rcases H0.out with ⟨a, -, e2⟩ | ⟨gv, ov, cap, e1, -, -, hgv, h3⟩
        · rw [e2] at hkl; exact absurd hkl (by simp)
        obtain ⟨rfl, -, rfl⟩ : a0 = some ⟨gv, ov, none⟩ ∧ no = os.length ∧ c0 = cap := by simpa using e1
        obtain ⟨cs, -, hc, hd', -⟩ := h3 k hkl
        obtain ⟨x, hx⟩ : ∃ x, os[k]'hkl = x := ⟨_, rfl⟩
        rw [hx] at hd'
        subst hd'
        have e0 := hc 0 (by simp)
        simp only [List.getElem_cons_zero, Nat.add_zero] at e0
        have hgl : gv < w2.heap.size := hgv
        have hkk : (os.map (·.kind))[((k : Int)).toNat]?.getD 0 = x.kind := by
          rw [Int.toNat_natCast, List.getElem?_map, List.getElem?_eq_getElem hkl, hx]; rfl
        rw [hkk] at hr
        clear hc h3 e1 hx hgv hkk H0
        by_cases c3 : x.kind = 1
        · have u3 : ((x.kind : Int) == 1) = true := by simp; omega
          have hr0 : r = true := by rw [← hr]; simp [c1, c2, c3]
          subst hr0
          clear hr c3
          go_wp2_with fail
          go_ret
          exact ⟨rfl, T.out.1⟩
        · have u3 : ((x.kind : Int) == 1) = false := by simp; omega
          have hr0 : r = false := by rw [← hr]; simp [c3]
          subst hr0
          clear hr c3
          go_wp2_with fail
          go_ret
          exact ⟨rfl, T.out.1⟩
      · have u2 : decide ((k : Int) < (no : Int)) = false := by simp; omega
        have hr0 : r = false := by rw [← hr]; simp [c2]
        subst hr0
        clear hr
        go_wp2_with fail
        go_ret
        exact ⟨rfl, T.out.1⟩
    · have u1 : decide ((0 : Int) ≤ n) = false := by simp; omega
      have hr0 : r = false := by rw [← hr]; simp [c1]
      subst hr0
      clear hr
      go_wp2_with fail
      go_ret
      exact ⟨rfl, T.out.1⟩
  have q4 : ((kd : Int) == 4) = false := by simp; omega
  by_cases k9 : kd = 9
  · subst k9
    have hr0 : r = true := by rw [← hr]; simp
    subst hr0
    clear hr
    go_wp2_with fail
    go_ret
    exact ⟨rfl, T.out.1⟩
  have q9 : ((kd : Int) == 9) = false := by simp; omega
  have hr0 : r = false := by rw [← hr]; simp [k1, k2, k3, k4, k5, k6, k7, k8, k9]
  subst hr0
  clear hr
  go_wp2_with fail
  go_ret
  exact ⟨rfl, T.out.1⟩
end Go.Proofs.YtcmaedoolinijaaGreatDoor
