/-
  amanuensislaw02.DiskTwice: behind a crash all is synced; another crash changes nothing.
-/
import Derived.Test.YtihagdadbeoeoaaDoorPlayed
import Derived.Test.YtihagdadbeoeoaaDoorFacts
import Derived.Test.YtihagdadbeoeoaaDoorAwake
import Derived.Test.YtihagdadbeoeoaaDoorClose
namespace Go.Proofs.YtihagdadbeoeoaaDoor.DiskTwice
open Go Go.RowKit Go.Sort
set_option maxRecDepth 100000
set_option maxHeartbeats 1600000

theorem Two.ok {X : Nat → Prop} {w0 w : World} {a b : Nat} {da db : Dsk} (h : Two X w0 w a da b db) : da.Ok := h.fst.ok

theorem walk (w : World) (v0 v1 v2 : Value) (ops : List OpR) (one two : List Int) (h0 : RdK 6 (isOp w) w v0 ops) (h1 : Rd i64v w v1 one) (h2 : Rd i64v w v2 two) :
    Calls Tryd.prog 9 #[v0, v1, v2] w fun e w' => e = .returned (.bool true) ∧ Nw w w' := by
  obtain ⟨a1, c1, hv1, -⟩ := h1.len
  obtain ⟨a2, c2, hv2, -⟩ := h2.len
  have H0 := Lib.hid h0
  rw [hv1] at h1
  rw [hv2] at h2
  have H1 := Lib.hid h1
  have H2 := Lib.hid h2
  rw [hv1, hv2]
  clear h0 h1 h2 hv1 hv2
  have AW := Lib.hid (fun w => awake_ok w)
  by_cases hb : one.length ≤ 300
  case neg =>
    have f1 : decide ((one.length : Int) > 300) = true := by simp; omega
    clear hb
    go_enter Tryd.func9, Tryd.ntmps9
    go_wp2_with fail
    refine (AW.out _).mono ?_
    rintro e w1 ⟨rfl, n1⟩
    go_wp2
    go_ret
    exact ⟨rfl, n1⟩
  have f1 : decide ((one.length : Int) > 300) = false := by simp; omega
  by_cases hb2 : two.length ≤ 300
  case neg =>
    have f2 : decide ((two.length : Int) > 300) = true := by simp; omega
    clear hb2
    go_enter Tryd.func9, Tryd.ntmps9
    go_wp2_with fail
    refine (AW.out _).mono ?_
    rintro e w1 ⟨rfl, n1⟩
    go_wp2
    go_ret
    exact ⟨rfl, n1⟩
  have f2 : decide ((two.length : Int) > 300) = false := by simp; omega
  go_enter Tryd.func9, Tryd.ntmps9
  go_wp2_with fail
  refine (played_ok w v0 1000 ops (by omega) (by omega) H0.out).mono ?_
  rintro e w1 ⟨a, b, rfl, T1⟩
  generalize (newDsk 1000).plays (ops.take 50) = P at T1
  have ok := Lib.hid T1.fst.ok
  have T1 := Lib.hid T1
  clear f1 f2 hb hb2
  go_wp2_with fail
  refine (T1.out.step (fun Y _ hY => hY.crash _ one (H1.out.nw hY.base) (fun hne g hg => .inr (H1.out.lt hne g hg)) rfl)).mono ?_
  rintro e w2 ⟨rfl, T2, -⟩
  have T2 := Lib.hid T2
  go_wp2_with fail
  refine (T2.out.symm.step (fun Y _ hY => hY.crash _ one (H1.out.nw hY.base) (fun hne g hg => .inr (H1.out.lt hne g hg)) rfl)).mono ?_
  rintro e w3 ⟨rfl, T3, -⟩
  have T3 := Lib.hid T3
  go_wp2_with fail
  refine (T3.out.step (fun Y _ hY => hY.crash _ two (H2.out.nw hY.base) (fun hne g hg => .inr (H2.out.lt hne g hg)) rfl)).mono ?_
  rintro e w4 ⟨rfl, T4, -⟩
  have T4 : Hid (Two (fun _ => False) w w4 a (P.crash one) b (P.crash one)) := by
    have := T4.symm
    rw [crash_crash ok.out] at this
    exact this
  have HS := Lib.hid (fun n => crash_synced ok.out one n)
  have hdn : (P.crash one).down = false := rfl
  have HDN := Lib.hid hdn
  clear T1 T2 T3 hdn
  generalize P.crash one = Q at T4 HS HDN
  obtain ⟨L, hL⟩ : ∃ L, Q.list = L := ⟨_, rfl⟩
  have HL := Lib.hid hL
  clear hL
  go_wp2_with fail
  refine (T4.out.fst.list HL.out).mono ?_
  rintro e w5 ⟨v5, rfl, s5, n5, -⟩
  obtain ⟨sa, cap, rfl, q1, q2, hel⟩ := s5.elems
  have HE := Lib.hid hel
  have T5 := Lib.hid (T4.out.nw n5)
  clear hel s5 n5
  unfold maxLen at q2
  go_wp2
  go_loopw [10] (fun i wr => ∃ k : Nat, k ≤ L.length ∧ i = .int .i64 k ∧ Nw w5 wr) (fun i _ => L.length - (intOf i).toNat)
  case atStart => exact ⟨0, Nat.zero_le _, rfl, Nw.refl _⟩
  case round =>
    obtain ⟨k, hk, rfl, hwr⟩ := hrel
    have HW := Lib.hid hwr
    clear hwr
    by_cases hlt : k < L.length
    · obtain ⟨g, o, rfl, hg, hc⟩ := HE.out k hlt
      have hc1 := HW.out.cell hc
      clear hc
      generalize L[k] = n at *
      obtain ⟨y, hy1, hy2⟩ : ∃ y, (fileOf Q.files n).synced = y ∧ (fileOf Q.files n).bytes.length = y := ⟨_, rfl, (HS.out n).symm⟩
      have Y1 := Lib.hid hy1
      have Y2 := Lib.hid hy2
      clear hy1 hy2
      have C1 : Hid (∀ p : Regrown, Calls Tryd.prog 24 #[.pointer (some ⟨a, 0, none⟩), .string ⟨n.toArray⟩] (grow (redrawn wr p.d) p.os) fun e w'' => e = .returned (.int .i64 y) ∧ ∃ p' : Regrown, w'' = grow (redrawn wr p'.d) p'.os) := fun p => quiet_nw fun w2 hw2 =>
        (T5.out.nw (HW.out.trans hw2)).fst.synced n Y1.out
      have C2 : Hid (∀ p : Regrown, Calls Tryd.prog 41 #[.pointer (some ⟨a, 0, none⟩), .string ⟨n.toArray⟩] (grow (redrawn wr p.d) p.os) fun e w'' => e = .returned (.int .i64 y) ∧ ∃ p' : Regrown, w'' = grow (redrawn wr p'.d) p'.os) := fun p => quiet_nw fun w2 hw2 =>
        (T5.out.nw (HW.out.trans hw2)).fst.size n Y2.out
      go_wp2
      have d1 := cellG hc1
      refine wp_region_quiet_below (by kernel_rfl) (by kernel_rfl) ?_
      repeat (first | go_big_quiet_step (first | with_reducible exact C1.out _ | with_reducible exact C2.out _) | quiet_step (first | with_reducible exact C1.out _ | with_reducible exact C2.out _))
      refine wpQuiet_nil ?_
      intro w8 hw8
      have N8 := Lib.hid (Nw.of_regrown hw8)
      clear d1 hc1
      go_wp2
      go_roundw
      case rel => exact ⟨k + 1, by omega, by go_num, HW.out.trans N8.out⟩
      case measure => simp [intOf]; omega
    · go_wp2_with fail
      refine ((T5.out.nw HW.out).fst.down HDN.out).mono ?_
      rintro e w6 ⟨rfl, rfl⟩
      go_wp2_with fail
      refine ((T5.out.nw HW.out).alike (Like.refl _)).mono ?_
      rintro e w7 ⟨rfl, n7⟩
      have N7 := Lib.hid n7
      clear n7
      go_wp2_with fail
      refine (AW.out _).mono ?_
      rintro e w8 ⟨rfl, n8⟩
      have N8 := Lib.hid n8
      clear n8
      go_wp2
      go_ret
      exact ⟨rfl, ((T5.out.nw HW.out).base.trans N7.out).trans N8.out⟩
end Go.Proofs.YtihagdadbeoeoaaDoor.DiskTwice
