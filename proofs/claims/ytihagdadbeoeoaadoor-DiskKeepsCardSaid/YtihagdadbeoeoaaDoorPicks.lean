/-
  The statements' choices and copies, walked: Pick, CopyBytes.
-/
import Derived.Test.YtihagdadbeoeoaaDoorVec
import Derived.Test.YtihagdadbeoeoaaDoorLow
namespace Go.Proofs.YtihagdadbeoeoaaDoor
open Go Go.RowKit Go.Sort
set_option maxRecDepth 100000
set_option maxHeartbeats 1600000

theorem tmod_pick (x n : Int) (hn : 0 < n) : -n < x.tmod n ∧ x.tmod n < n ∧ (x.tmod n + n).tmod n = x % n := by
  have h0 := Int.emod_nonneg x (by omega : n ≠ 0)
  have h1 := Int.emod_lt_of_pos x hn
  have e : x.tmod n = x % n ∨ (x.tmod n = x % n - n ∧ x % n ≠ 0) := by
    rw [Int.tmod_eq_emod]
    by_cases hc : 0 ≤ x ∨ n ∣ x
    · rw [if_pos hc]; left; simp
    · rw [if_neg hc]; right
      refine ⟨by omega, fun h => hc (.inr (Int.dvd_of_emod_eq_zero h))⟩
  have key : ∀ y : Int, y = x % n ∨ y = x % n - n → (y + n).tmod n = x % n := by
    rintro y (rfl | rfl)
    · rw [Int.tmod_eq_emod_of_nonneg (by omega), Int.add_emod_right, Int.emod_emod]
    · rw [show x % n - n + n = x % n by omega, Int.tmod_eq_emod_of_nonneg h0, Int.emod_emod]
  refine ⟨?_, ?_, key _ (e.imp id (fun h => h.1))⟩
  · rcases e with e | ⟨e, h⟩ <;> omega
  · rcases e with e | ⟨e, h⟩ <;> omega
theorem Pick_ok (x n : Int) (w : World) (h2 : 2 ≤ n) (hn : n ≤ 1000000007) :
    Calls Tryd.prog 14 #[.int .i64 x, .int .i64 n] w fun e w' => e = .returned (.int .i64 (x % n)) ∧ w = w' := by
  obtain ⟨k1, k2, k3⟩ := tmod_pick x n (by omega)
  have hz0 := Int.emod_nonneg x (by omega : n ≠ 0)
  have hz1 := Int.emod_lt_of_pos x (by omega : 0 < n)
  obtain ⟨y, hy⟩ : ∃ y, x.tmod n = y := ⟨_, rfl⟩
  obtain ⟨z, hz⟩ : ∃ z, x % n = z := ⟨_, rfl⟩
  rw [hy] at k1 k2 k3
  rw [hz] at k3 hz0 hz1 ⊢
  clear hz
  go_enter Tryd.func14, Tryd.ntmps14
  go_wp2
  go_ret
  exact ⟨rfl, rfl⟩

theorem CopyBytes_ok {w : World} {v : Value} {l : List UInt8} (h : Bs w v l) (hl : l.length ≤ 9223372036854775807) :
    Calls Tryd.prog 17 #[v] w fun e w' => ∃ v', e = .returned v' ∧ Vec 1 w' v' l.length (l.map u8) ∧ Nw w w' ∧ ∀ g, v'.ownBlock = some g → w.heap.size ≤ g := by
  have c1 := conv_str h
  have hV := Vec.of_conv w 5 l (by unfold maxLen; omega)
  have c2 : (convert 9 29 (.string ⟨l.toArray⟩)).run Tryd.prog w = .ok (.slice (some ⟨w.heap.size, 0, none⟩) l.length (grownCap w l.length 0 5)) (Lib.bytesWorld w 5 ⟨l.toArray⟩) :=
    Lib.run_convert_string_bytes (P := Tryd.prog) w 9 29 5 ⟨l.toArray⟩ Tryd.underlying9 Tryd.underlying29 Tryd.underlying5
  generalize Lib.bytesWorld w 5 ⟨l.toArray⟩ = w1 at c2 hV
  have HV := Lib.hid hV
  clear hV
  clear h
  go_enter Tryd.func17, Tryd.ntmps17
  go_wp2
  go_ret
  exact ⟨.slice (some ⟨w.heap.size, 0, none⟩) l.length (grownCap w l.length 0 5), rfl, HV.out.1, HV.out.2, fun g hg => by cases hg; exact Nat.le_refl _⟩
end Go.Proofs.YtihagdadbeoeoaaDoor
