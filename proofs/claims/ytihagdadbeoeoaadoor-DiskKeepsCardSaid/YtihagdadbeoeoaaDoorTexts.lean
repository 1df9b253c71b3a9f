/-
  SameTexts, walked.
-/
import Derived.Test.YtihagdadbeoeoaaDoorLow
namespace Go.Proofs.YtihagdadbeoeoaaDoor
open Go Go.RowKit Go.Sort
set_option maxRecDepth 100000
set_option maxHeartbeats 1600000

theorem beq_of_take {l k : List Str} (h : l = k) : (l == k) = true := by simpa using h
theorem nbeq_at {l k : List Str} (i : Nat) (h : l[i]? ≠ k[i]?) : (l == k) = false := by
  rw [Bool.eq_false_iff]; intro e; have : l = k := by simpa using e
  exact h (by rw [this])

theorem SameTexts_ok {w : World} {v u : Value} {l k : List Str} (h : Ss w v l) (h' : Ss w u k) :
    Calls Tryd.prog 46 #[v, u] w fun e w' => e = .returned (.bool (l == k)) ∧ Nw w w' := by
  obtain ⟨la, lc, rfl, hl1, hl2, hle⟩ := h.elems
  obtain ⟨ka, kc, rfl, hk1, hk2, hke⟩ := h'.elems
  unfold maxLen at hl2 hk2
  have HL := Lib.hid hle
  have HK := Lib.hid hke
  clear h h' hle hke
  go_enter Tryd.func46, Tryd.ntmps46
  go_wp2
  go_loopw [5] (fun i wr => ∃ n : Nat, n ≤ l.length ∧ n ≤ k.length ∧ i = .int .i64 n ∧ l.take n = k.take n ∧ Nw w wr) (fun i _ => l.length + k.length - (intOf i).toNat)
  case atStart => exact ⟨0, Nat.zero_le _, Nat.zero_le _, rfl, rfl, Nw.refl _⟩
  case round =>
    obtain ⟨n, hn1, hn2, rfl, ht, hwr⟩ := hrel
    have HT := Lib.hid ht
    have HW := Lib.hid hwr
    clear ht
    by_cases h1 : n < l.length
    · obtain ⟨g, o, rfl, hg, hc⟩ := HL.out n h1
      have hc1 := hwr.cell hc
      by_cases h2 : n < k.length
      · obtain ⟨g2, o2, rfl, hg2, hd⟩ := HK.out n h2
        have hd1 := hwr.cell hd
        by_cases he : l[n] = k[n]
        · have he' : Hid (l.take (n + 1) = k.take (n + 1)) := by
            show l.take (n + 1) = k.take (n + 1)
            rw [List.take_succ_eq_append_getElem h1, List.take_succ_eq_append_getElem h2, HT.out, he]
          have q1 : decide ((l.length : Int) ≤ (n : Int)) = false := by simp; omega
          have q2 : decide ((k.length : Int) ≤ (n : Int)) = false := by simp; omega
          rw [he] at hc1
          clear hc hd hwr he
          go_wp2
          have d1 := cellG hc1
          have d2 := cellG hd1
          refine wp_region_quiet_below (by kernel_rfl) (by kernel_rfl) ?_
          repeat (first | go_big_quiet_step (fail) | quiet_step (fail))
          refine wpQuiet_nil ?_
          intro w2 hw2
          have hw2 := Lib.hid (Nw.of_regrown hw2)
          clear d1 d2 q1 q2 hc1 hd1
          go_wp2
          go_roundw
          case rel => exact ⟨n + 1, by omega, by omega, by go_num, he'.out, HW.out.trans hw2.out⟩
          case measure => simp [intOf]; omega
        · have r : Hid ((l == k) = false) := nbeq_at n (by rw [List.getElem?_eq_getElem h1, List.getElem?_eq_getElem h2]; intro e; exact he (Option.some.inj e))
          have q1 : decide ((l.length : Int) ≤ (n : Int)) = false := by simp; omega
          have q2 : decide ((k.length : Int) ≤ (n : Int)) = false := by simp; omega
          have q3 : (l[n] == k[n]) = false := by simpa using he
          have q4 : (l[n] != k[n]) = true := by simpa using he
          generalize l[n] = ln at *
          generalize k[n] = kn at *
          clear hc hd hwr
          go_wp2
          have d1 := cellG hc1
          have d2 := cellG hd1
          refine wp_region_quiet_below (by kernel_rfl) (by kernel_rfl) ?_
          repeat (first | go_big_quiet_step (fail) | quiet_step (fail))
          refine wpQuiet_nil ?_
          intro w2 hw2
          have hw2 := Lib.hid (Nw.of_regrown hw2)
          clear d1 d2 q1 q2 hc1 hd1
          go_wp2
          go_ret
          exact ⟨by rw [r.out]; rfl, HW.out.trans hw2.out⟩
      · have r : Hid ((l == k) = false) := nbeq_at n (by rw [List.getElem?_eq_getElem h1, List.getElem?_eq_none (by omega)]; simp)
        have q1 : decide ((l.length : Int) ≤ (n : Int)) = false := by simp; omega
        have q2 : decide ((k.length : Int) ≤ (n : Int)) = true := by simp; omega
        clear hc hwr hc1
        go_wp2
        refine wp_region_quiet_below (by kernel_rfl) (by kernel_rfl) ?_
        repeat (first | go_big_quiet_step (fail) | quiet_step (fail))
        refine wpQuiet_nil ?_
        intro w2 hw2
        have hw2 := Lib.hid (Nw.of_regrown hw2)
        clear q1 q2
        go_wp2
        go_ret
        exact ⟨by rw [r.out]; rfl, HW.out.trans hw2.out⟩
    · by_cases h2 : n < k.length
      · have r : Hid ((l == k) = false) := nbeq_at n (by rw [List.getElem?_eq_none (by omega), List.getElem?_eq_getElem h2]; simp)
        have q1 : decide ((l.length : Int) ≤ (n : Int)) = true := by simp; omega
        clear hwr
        go_wp2
        refine wp_region_quiet_below (by kernel_rfl) (by kernel_rfl) ?_
        repeat (first | go_big_quiet_step (fail) | quiet_step (fail))
        refine wpQuiet_nil ?_
        intro w2 hw2
        have hw2 := Lib.hid (Nw.of_regrown hw2)
        clear q1
        go_wp2
        go_ret
        exact ⟨by rw [r.out]; rfl, HW.out.trans hw2.out⟩
      · have r : Hid ((l == k) = true) := beq_of_take (by
          have := HT.out
          rw [List.take_of_length_le (by omega), List.take_of_length_le (by omega)] at this
          exact this)
        clear hwr
        go_wp2
        go_ret
        exact ⟨by rw [r.out]; rfl, HW.out⟩
end Go.Proofs.YtihagdadbeoeoaaDoor
