/-
  Texts merged by a program of this claim's: EvCut.
-/
import Derived.Test.YtoikjiojhlfgiaaGreatDoorM11
/-
  A beginning of a slice of events.
-/
namespace Go.Proofs.YtoikjiojhlfgiaaGreatDoor
open Go Go.RowKit Go.Sort
set_option maxRecDepth 100000
theorem sizeEv (W : World) : (sizeOf (Tryz.prog.elem 33)).run Tryz.prog W = .ok 5 W := by kernel_rfl
theorem elemEv : Tryz.prog.underlying 33 = some (.slice (Tryz.prog.elem 33)) := by kernel_rfl
theorem flatMap_take5 : ∀ (l : List Ev) (j : Nat), (l.take j).flatMap evV = (l.flatMap evV).take (j * 5)
  | [], j => by simp
  | e :: l, 0 => by simp
  | e :: l, j + 1 => by
    rw [List.take_succ_cons, List.flatMap_cons, List.flatMap_cons, flatMap_take5 l j, List.take_append]
    have h5 : (evV e).length = 5 := rfl
    rw [List.take_of_length_le (show (evV e).length ≤ (j + 1) * 5 by rw [h5]; omega), h5, show (j + 1) * 5 - 5 = j * 5 by omega]
/-- l[:j] -/
theorem evs_h {w : World} {a : Option Addr} {n cap : Nat} {l : List Ev} (h : SrcV 5 w (.slice a n cap) n (l.flatMap evV)) (hn : l.length = n) (hok : ∀ e ∈ l, e.Ok) (j : Nat) (hj : j ≤ n) : ∃ a' c',
    (∀ W, (Instr.slice 33 (.slice a n cap) none (some (.int .i64 j)) none).run Tryz.prog W = .ok (.slice a' j c') W) ∧ Evs w (.slice a' j c') (l.take j) := by
  obtain ⟨hlen, ⟨a0, hv, h0⟩ | ⟨g, o, c, hv, h1, h2, h3, h4⟩⟩ := h
  · injection hv with e1 e2 e3
    subst e1 e2 e3
    obtain rfl : j = 0 := by omega
    refine ⟨a, 0, fun W => ?_, ⟨⟨by simp, .inl ⟨a, by simp, by simp⟩⟩, fun e he => hok e (List.mem_of_mem_take he)⟩⟩
    rw [run_slice_h W 33 a 0 0 elemEv .i64 ((0 : Nat) : Int) (by omega) (by omega), sizeEv]
    simp [Result.andThen, sliced]
  · injection hv with e1 e2 e3
    subst e1 e3
    have hs : ∀ W, (Instr.slice 33 (.slice (some ⟨g, o, none⟩) n cap) none (some (.int .i64 j)) none).run Tryz.prog W = .ok (sliced (some ⟨g, o, none⟩) 0 j cap 5) W := fun W => by
      rw [run_slice_h W 33 (some ⟨g, o, none⟩) n cap elemEv .i64 j (by omega) (by omega), sizeEv]
      simp only [Result.andThen, Int.toNat_natCast]
    by_cases hc : cap = 0
    · subst hc
      obtain rfl : j = 0 := by omega
      refine ⟨some ⟨g, o, none⟩, 0, fun W => by rw [hs]; simp [sliced], ⟨⟨by simp, .inl ⟨some ⟨g, o, none⟩, by simp, by simp⟩⟩, fun e he => hok e (List.mem_of_mem_take he)⟩⟩
    · have hl : (l.take j).length = j := by simp; omega
      refine ⟨some ⟨g, o, none⟩, cap, fun W => by rw [hs]; simp [sliced, hc, addr_add], ⟨⟨by rw [hl, flatMap_take5, List.length_take, hlen]; omega, .inr ⟨g, o, cap, by rw [hl], by omega, h2, h3, fun i hi => ?_⟩⟩, fun e he => hok e (List.mem_of_mem_take he)⟩⟩
      rw [flatMap_take5] at hi
      have hi2 : i < (l.flatMap evV).length := by rw [List.length_take] at hi; omega
      rw [h4 i hi2]
      simp only [flatMap_take5, List.getElem_take]
theorem flatMap_drop5 : ∀ (l : List Ev) (j : Nat), (l.drop j).flatMap evV = (l.flatMap evV).drop (j * 5)
  | [], j => by simp
  | e :: l, 0 => by simp
  | e :: l, j + 1 => by
    have h5 : (evV e).length = 5 := rfl
    rw [List.drop_succ_cons, List.flatMap_cons, flatMap_drop5 l j, List.drop_append, List.drop_of_length_le (show (evV e).length ≤ (j + 1) * 5 by rw [h5]; omega), h5, show (j + 1) * 5 - 5 = j * 5 by omega]
    simp
/-- l[i:j] -/
theorem evs_lh {w : World} {a : Option Addr} {n cap : Nat} {l : List Ev} (h : Evs w (.slice a n cap) l) (hn : l.length = n) (i j : Nat) (hij : i ≤ j) (hj : j ≤ n) : ∃ a' c',
    (∀ W, (Instr.slice 33 (.slice a n cap) (some (.int .i64 i)) (some (.int .i64 j)) none).run Tryz.prog W = .ok (.slice a' (j - i) c') W) ∧ (∀ W, (Instr.sliceAt 33 (.slice a n cap) (some (.int .i64 i)) (some (.int .i64 j)) none).run Tryz.prog W = .ok (.slice a' (j - i) c') W) ∧
    Evs w (.slice a' (j - i) c') ((l.drop i).take (j - i)) := by
  have hok : ∀ e ∈ (l.drop i).take (j - i), e.Ok := fun e he => h.ok e (List.mem_of_mem_drop (List.mem_of_mem_take he))
  have hl : ((l.drop i).take (j - i)).length = j - i := by simp; omega
  have both : ∀ (x : Value) (W : World), (Instr.slice 33 (.slice a n cap) (some (.int .i64 i)) (some (.int .i64 j)) none).run Tryz.prog W = .ok x W → (Instr.sliceAt 33 (.slice a n cap) (some (.int .i64 i)) (some (.int .i64 j)) none).run Tryz.prog W = .ok x W := fun x W hx => by
    rw [run_sliceAt_slice W _ _ _ _ _ elemEv]; exact hx
  have hsrc := h.src
  rw [hn] at hsrc
  obtain ⟨hlen, ⟨a0, hv, h0⟩ | ⟨g, o, c, hv, h1, h2, h3, h4⟩⟩ := hsrc
  · injection hv with e1 e2 e3
    subst e1 e2 e3
    obtain rfl : j = 0 := by omega
    obtain rfl : i = 0 := by omega
    have key : ∀ W, (Instr.slice 33 (.slice a 0 0) (some (.int .i64 ((0 : Nat) : Int))) (some (.int .i64 ((0 : Nat) : Int))) none).run Tryz.prog W = .ok (.slice a (0 - 0) 0) W := fun W => by
      rw [run_slice_lh W 33 a 0 0 elemEv .i64 .i64 ((0 : Nat) : Int) ((0 : Nat) : Int) (by omega) (by omega) (by omega), sizeEv]
      simp [Result.andThen, sliced]
    exact ⟨a, 0, key, fun W => both _ W (key W), ⟨⟨by simp, .inl ⟨a, by simp, by simp⟩⟩, hok⟩⟩
  · injection hv with e1 e2 e3
    subst e1 e3
    have hs : ∀ W, (Instr.slice 33 (.slice (some ⟨g, o, none⟩) n cap) (some (.int .i64 i)) (some (.int .i64 j)) none).run Tryz.prog W = .ok (sliced (some ⟨g, o, none⟩) i j cap 5) W := fun W => by
      rw [run_slice_lh W 33 (some ⟨g, o, none⟩) n cap elemEv .i64 .i64 i j (by omega) (by omega) (by omega), sizeEv]
      simp only [Result.andThen, Int.toNat_natCast]
    by_cases hc : cap = i
    · obtain rfl : j = i := by omega
      subst hc
      have key : ∀ W, (Instr.slice 33 (.slice (some ⟨g, o, none⟩) n cap) (some (.int .i64 cap)) (some (.int .i64 cap)) none).run Tryz.prog W = .ok (.slice (some ⟨g, o, none⟩) (cap - cap) 0) W := fun W => by rw [hs]; simp [sliced]
      refine ⟨some ⟨g, o, none⟩, 0, key, fun W => both _ W (key W), ⟨⟨by rw [hl]; simp, .inl ⟨some ⟨g, o, none⟩, by simp, hl.trans (Nat.sub_self cap)⟩⟩, hok⟩⟩
    · have key : ∀ W, (Instr.slice 33 (.slice (some ⟨g, o, none⟩) n cap) (some (.int .i64 i)) (some (.int .i64 j)) none).run Tryz.prog W = .ok (.slice (some ⟨g, o + i * 5, none⟩) (j - i) (cap - i)) W := fun W => by rw [hs]; simp [sliced, hc, addr_add]
      refine ⟨some ⟨g, o + i * 5, none⟩, cap - i, key, fun W => both _ W (key W), ⟨⟨?_, .inr ⟨g, o + i * 5, cap - i, by rw [hl], by omega, by omega, h3, fun k hk => ?_⟩⟩, hok⟩⟩
      · rw [hl, flatMap_take5, flatMap_drop5, List.length_take, List.length_drop, hlen]
        have : (j - i) * 5 ≤ n * 5 - i * 5 := by omega
        omega
      · have hk2 : i * 5 + k < (l.flatMap evV).length := by
          rw [flatMap_take5, flatMap_drop5, List.length_take, List.length_drop] at hk
          omega
        rw [Nat.add_assoc, h4 (i * 5 + k) hk2]
        simp only [flatMap_take5, flatMap_drop5, List.getElem_take, List.getElem_drop]
theorem SrcV.keep {k : Nat} {S : Nat → Prop} {w w' : World} {v : Value} {n : Nat} {cs : List Value} (h : SrcV k w v n cs) (ho : Only S w w') (hb : ∀ g, v.ownBlock = some g → ¬ S g) : SrcV k w' v n cs := by
  obtain ⟨e, ⟨a, hv, hn⟩ | ⟨g, o, cap, rfl, h1, h2, h3, h4⟩⟩ := h
  · exact ⟨e, .inl ⟨a, hv, hn⟩⟩
  · exact ⟨e, .inr ⟨g, o, cap, rfl, h1, h2, Nat.lt_of_lt_of_le h3 ho.size, fun j hj => ho.cell (h4 j hj) (hb g rfl)⟩⟩
theorem Evs.keep {S : Nat → Prop} {w w' : World} {v : Value} {l : List Ev} (h : Evs w v l) (ho : Only S w w') (hb : ∀ g, v.ownBlock = some g → ¬ S g) : Evs w' v l := ⟨h.src.keep ho hb, h.ok⟩
end Go.Proofs.YtoikjiojhlfgiaaGreatDoor
