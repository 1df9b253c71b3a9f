/-
  Texts merged by a program of this claim's: UnpC, PackUse.
-/
import Derived.Test.YtjapijndljknnaaGreatDoorM33
import Derived.Test.YtjapijndljknnaaGreatDoorM22
import Derived.Test.YtjapijndljknnaaGreatDoorM13
import Derived.Test.YtjapijndljknnaaGreatDoorM29
import Derived.Test.YtjapijndljknnaaGreatDoorM32
/-
  Package segment, walked: Unpack. Printed by wip/gen_unpc.py.
-/
namespace Go.Proofs.YtjapijndljknnaaGreatDoor
open Go Go.RowKit Go.Sort
set_option maxRecDepth 100000
set_option maxHeartbeats 1600000

theorem zeros_list (n : Nat) : (List.range (n * 5)).map (fun i => (evV Ev.zero).toArray[i % 5]!) = (List.replicate n Ev.zero).flatMap evV := by
  induction n with
  | zero => rfl
  | succ n ih =>
    have e : (n + 1) * 5 = n * 5 + 1 + 1 + 1 + 1 + 1 := by omega
    have h0 : (n * 5) % 5 = 0 := by omega
    have h1 : (n * 5 + 1) % 5 = 1 := by omega
    have h2 : (n * 5 + 1 + 1) % 5 = 2 := by omega
    have h3 : (n * 5 + 1 + 1 + 1) % 5 = 3 := by omega
    have h4 : (n * 5 + 1 + 1 + 1 + 1) % 5 = 4 := by omega
    rw [e, List.range_succ, List.range_succ, List.range_succ, List.range_succ, List.range_succ, List.replicate_succ', List.flatMap_append, ← ih]
    simp only [List.map_append, List.map_cons, List.map_nil, h0, h1, h2, h3, h4, List.append_assoc]
    rfl
theorem makeN (w : World) (n : Nat) (hn : n ≤ 1048576) (k : IntKind) : ∃ W, (Instr.makeSlice 25 (.int k n) (.int k n)).run Tryz.prog w = .ok (.slice (some ⟨w.heap.size, 0, none⟩) n n) W ∧ Nw w W ∧ Vec 5 W (.slice (some ⟨w.heap.size, 0, none⟩) n n) n ((List.replicate n Ev.zero).flatMap evV) := by
  obtain ⟨i0, hi, hz0, hz1, hz2⟩ := info_parts infoEv
  have hr := run_makeSlice (P := Tryz.prog) w 25 73 i0 _ Tryz.underlying25 hi hz0 k k n n (by omega) (by omega) (by rw [hz1]; omega) (by rw [hz2]; omega) (by omega)
  rw [hz1] at hr
  have en : ((n : Nat) : Int).toNat = n := by simp
  rw [en] at hr
  refine ⟨_, hr, (Nw.refl w).alloc _, ?_⟩
  have e : madeCells (Value.agg #[.int .i64 0, .int .u8 0, .int .i64 0, .int .i64 0, .int .i64 0]).cells (n * 5) = ((List.replicate n Ev.zero).flatMap evV).toArray := by
    apply Array.ext'
    rw [List.toList_toArray, ← zeros_list]
    unfold madeCells
    rw [Array.toList_map, Array.toList_range]
    rfl
  rw [e]
  exact vec_lit w 73 5 n _ _ (0, 0) rfl (by rw [evs_len, List.length_replicate]) (by unfold maxLen; omega) (fun j _ h => by simp at h)
/-- What Unpack hands back. -/
def UnpP (w : World) (r : Int × List Ev × Int) (z : Ending) (w' : World) : Prop := ∃ v', z = .returned (.tuple #[.int .i64 r.1, v', .int .i64 r.2.2]) ∧ OwnE w w' v' r.2.1
theorem UnpP.none {w w' : World} {r : Int × List Ev × Int} {x : Int} (h : r = (0, [], x)) (hw : Nw w w') : UnpP w r (.returned (.tuple #[.int .i64 0, .slice none 0 0, .int .i64 x])) w' :=
  ⟨_, by rw [h], by rw [h]; exact Vec.nil, hw, fun g hg => by cases hg⟩
end Go.Proofs.YtjapijndljknnaaGreatDoor

/-
  Columns, bit by bit; plain words for the walk of Pack.
-/
namespace Go.Proofs.YtjapijndljknnaaGreatDoor
open Go
theorem runs_len : ∀ (f : Nat) (D : List Int), (∀ x ∈ D, in64 x) → D.length < 2 ^ 63 → ((runsOf f D).flatMap runB).length ≤ 20 * D.length
  | 0, D, _, _ => by simp [runsOf]
  | f + 1, [], _, _ => by simp [runsOf]
  | f + 1, x :: l, h, hl => by
    have hle := headRun_le x l
    have ih := runs_len f (l.drop (headRun x l)) (fun y hy => h y (by simp [List.mem_of_mem_drop hy])) (by simp at hl ⊢; omega)
    have h1 := intB_len (h x (by simp))
    have h2 := uintB_len (headRun x l + 1) 10 (by omega) (Nat.lt_trans (show headRun x l + 1 < 2 ^ 64 by simp at hl; omega) (by decide))
    rw [List.length_drop] at ih
    simp only [runsOf, List.flatMap_cons, runB, List.length_append, List.length_cons]
    omega
theorem colB_len {l : List Int} (hl : l.length < 2 ^ 63) : (colB l).length ≤ 20 * l.length := by
  have := runs_len l.length (deltas 0 l) (deltas_in l 0) (by rw [deltas_len]; exact hl)
  rw [deltas_len] at this
  exact this
end Go.Proofs.YtjapijndljknnaaGreatDoor
