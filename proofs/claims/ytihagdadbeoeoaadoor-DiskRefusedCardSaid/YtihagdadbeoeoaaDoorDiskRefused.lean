/-
  amanuensislaw02.DiskRefused: what is refused changes nothing.
-/
import Derived.Test.YtihagdadbeoeoaaDoorPlayed
import Derived.Test.YtihagdadbeoeoaaDoorFacts
import Derived.Test.YtihagdadbeoeoaaDoorAwake
import Derived.Test.YtihagdadbeoeoaaDoorClose
namespace Go.Proofs.YtihagdadbeoeoaaDoor.DiskRefused
open Go Go.RowKit Go.Sort
set_option maxRecDepth 100000
set_option maxHeartbeats 1600000

theorem op_refused {d d' : Dsk} {may : Int} {act : List (Str × DFile) → List (Str × DFile)} {y : Int} (h : d.op may act = (d', y)) (h0 : y ≠ 0) (h15 : y ≠ 15) : d' = d := by
  unfold Dsk.op at h
  split at h
  · exact (Prod.mk.inj h).1.symm
  · split at h
    · exact (Prod.mk.inj h).1.symm
    · split at h
      · exact absurd (Prod.mk.inj h).2.symm h15
      · exact absurd (Prod.mk.inj h).2.symm h0
theorem does_refused {d d' : Dsk} {o : OpR} {y : Int} (h : d.does o = (d', y)) (h0 : y ≠ 0) (h15 : y ≠ 15) : d' = d := by
  unfold Dsk.does at h
  repeat' split at h
  all_goals first
    | exact op_refused h h0 h15
    | exact absurd (Prod.mk.inj h).2.symm h0

theorem walk (w : World) (v1 : Value) (m : Int) (ops : List OpR) (hm : 0 ≤ m ∧ m ≤ 65535) (h1 : RdK 6 (isOp w) w v1 ops) :
    Calls Tryd.prog 11 #[.int .u16 m, v1] w fun e w' => e = .returned (.bool true) ∧ Nw w w' := by
  obtain ⟨sa, cap, rfl, hc1, hc2, hel⟩ := h1.len
  have HE := Lib.hid hel
  clear h1 hel
  unfold maxLen at hc2
  have AW := Lib.hid (fun w => awake_ok w)
  obtain ⟨M, hM, hM0, hM1⟩ : ∃ M : Int, m.tmod 1001 = M ∧ 0 ≤ M ∧ M ≤ 1000 := by
    refine ⟨m.tmod 1001, rfl, ?_, ?_⟩
    · rw [Int.tmod_eq_emod_of_nonneg hm.1]; omega
    · rw [Int.tmod_eq_emod_of_nonneg hm.1]; omega
  have hm0 := hm.1
  have hm1 := hm.2
  clear hm
  go_enter Tryd.func11, Tryd.ntmps11
  go_wp2_with fail
  refine (HasX.new M _ (by omega) (by omega)).mono ?_
  rintro e w1 ⟨a, rfl, H1⟩
  have H1 := Lib.hid H1
  go_wp2_with fail
  refine (HasX.new M _ (by omega) (by omega)).mono ?_
  rintro e w2 ⟨b, rfl, H2⟩
  have T2 := Lib.hid (Two.of_new H1.out H2)
  clear H2 H1 hM hM0 hM1 hm0 hm1
  go_wp2
  go_loopw [9] (fun i wr => ∃ (k : Nat) (D : Dsk), k ≤ ops.length ∧ k ≤ 50 ∧ i = .int .i64 k ∧ Two (fun _ => False) w wr a D b D) (fun i _ => ops.length - (intOf i).toNat)
  case atStart => exact ⟨0, _, Nat.zero_le _, by omega, rfl, T2.out⟩
  case round =>
    obtain ⟨k, D, hk, hk5, rfl, hT⟩ := hrel
    have HT := Lib.hid hT
    clear hT
    by_cases hlt : k < ops.length
    · by_cases hlt5 : k < 50
      · obtain ⟨g, o, rfl, hg, cs, hcl, hcc, hop⟩ := HE.out k hlt
        generalize ops[k] = x at *
        obtain ⟨vb, vk, hop⟩ := hop
        have HO := Lib.hid hop
        obtain ⟨c0, c1, c2, c3, c4, c5⟩ := op_cells hop (fun j hj => HT.out.base.cell (hcc j hj))
        have HC := Lib.hid (fun w' (hw : Nw w w') => op_cells hop (fun j hj => hw.cell (hcc j hj)))
        clear hcc hop
        go_wp2_with fail
        refine (small_op HO.out).mono ?_
        rintro e w3 ⟨rfl, n3⟩
        have T3 := Lib.hid (HT.out.nw n3)
        clear n3 c0 c1 c2 c3 c4 c5
        cases hsm : x.small
        case true =>
          obtain ⟨D', y, hr⟩ : ∃ D' y, D.does x = (D', y) := ⟨_, _, rfl⟩
          have HR := Lib.hid hr
          have HSM := Lib.hid hsm
          clear hr hsm
          obtain ⟨c0, c1, c2, c3, c4, c5⟩ := HC.out _ T3.out.base
          go_wp2_with fail
          refine (T3.out.step (fun Y _ hY => does_op hY HO.out HSM.out HR.out)).mono ?_
          rintro e w4 ⟨rfl, T4, -⟩
          have T4 := Lib.hid T4
          clear c0 c1 c2 c3 c4 c5
          obtain ⟨c0, c1, c2, c3, c4, c5⟩ := HC.out _ T4.out.base
          by_cases hy : y = 0 ∨ y = 15
          · have h2 : (y != 0 && y != 15) = false := by rcases hy with rfl | rfl <;> decide
            rcases hy with rfl | rfl
            all_goals
              clear h2
              go_wp2_with fail
              refine (T4.out.symm.step (fun Y _ hY => does_op hY HO.out HSM.out HR.out)).mono ?_
              rintro e w5 ⟨rfl, T5, -⟩
              have T5 := Lib.hid T5
              clear c0 c1 c2 c3 c4 c5
              go_wp2_with fail
              refine (T5.out.symm.alike (Like.refl _)).mono ?_
              rintro e w6 ⟨rfl, n6⟩
              have T6 := Lib.hid (T5.out.symm.nw n6)
              clear n6
              go_wp2
              go_roundw
              case rel => exact ⟨k + 1, D', by omega, by omega, by go_num, T6.out⟩
              case measure => simp [intOf]; omega
          · have f1 : (y != 0) = true := by rw [bne_iff_ne]; omega
            have f2 : (y != 15) = true := by rw [bne_iff_ne]; omega
            have e := does_refused HR.out (by omega) (by omega)
            have E := Lib.hid e
            clear e hy c0 c1 c2 c3 c4 c5
            go_wp2
            go_roundw
            case rel => exact ⟨k + 1, D, by omega, by omega, by go_num, by rw [← E.out]; rw [E.out]; have := T4.out; rw [E.out] at this; exact this⟩
            case measure => simp [intOf]; omega
        case false =>
          clear hsm
          go_wp2
          go_roundw
          case rel => exact ⟨k + 1, D, by omega, by omega, by go_num, T3.out⟩
          case measure => simp [intOf]; omega
      · have f1 : decide ((k : Int) < 50) = false := by simp; omega
        go_wp2_with fail
        refine (AW.out _).mono ?_
        rintro e w6 ⟨rfl, n6⟩
        have N6 := Lib.hid n6
        clear n6
        go_wp2
        go_ret
        exact ⟨rfl, HT.out.base.trans N6.out⟩
    · go_wp2_with fail
      refine (AW.out _).mono ?_
      rintro e w6 ⟨rfl, n6⟩
      have N6 := Lib.hid n6
      clear n6
      go_wp2
      go_ret
      exact ⟨rfl, HT.out.base.trans N6.out⟩
end Go.Proofs.YtihagdadbeoeoaaDoor.DiskRefused
