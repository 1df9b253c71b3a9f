/-
  Texts merged by a program of this claim's: CompRoom.
-/
import Derived.Test.YtjapijndljknnaaGreatDoorM40
/-
  Compaction on a disk that is up, with any room: plain words.
-/
namespace Go.Proofs.YtjapijndljknnaaGreatDoor
open Go
set_option maxRecDepth 100000
theorem op_upE {d : Dsk} (h : d.Up) (may : Int) (act : List (Str × DFile) → List (Str × DFile)) : (d.op may act).2 = may ∧ (may = 0 → (d.op may act).1.files = act d.files) := by
  obtain ⟨h1, h2⟩ := h
  unfold Dsk.op
  rw [h1, h2]
  simp only [Bool.false_eq_true, if_false]
  split
  · rename_i hm; exact ⟨rfl, fun h => absurd h hm⟩
  · rename_i hm
    have hm : may = 0 := by simpa using hm
    rw [if_neg (by decide)]
    exact ⟨hm.symm, fun _ => rfl⟩
theorem fresh_upE {d : Dsk} (h : d.Up) (hd : (namesF d.files).Nodup) {n : Str} (hn : okName n = true) (b : List UInt8) : (d.fresh n b).2 = 0 ∨ (d.fresh n b).2 = 5 := by
  have g0 : (d.gone n).2 = 0 := by
    have h1 := (op_upE h (d.there n) fun L => delF L n).1
    unfold Dsk.gone
    simp only
    split
    · rfl
    · rename_i h2
      unfold Dsk.remove at h2 ⊢
      rw [h1] at h2 ⊢
      unfold Dsk.there at h2 ⊢
      split
      · rfl
      · rename_i h3; rw [if_neg h3] at h2; exact absurd rfl h2
  have hg := gone_up h n
  unfold Dsk.fresh andThen
  generalize d.gone n = r1 at *
  obtain ⟨a1, a2⟩ := op_upE hg (r1.1.mayAppend n b) fun L => setF L n ⟨(fileOf L n).bytes ++ b, (fileOf L n).synced⟩
  have a1 : (r1.1.append n b).2 = r1.1.mayAppend n b := a1
  have ha := append_up hg n b
  rw [if_pos g0]
  simp only
  by_cases h0 : (r1.1.append n b).2 = 0
  · rw [if_pos h0]
    left
    have hf : (r1.1.append n b).1.files = setF r1.1.files n ⟨(fileOf r1.1.files n).bytes ++ b, (fileOf r1.1.files n).synced⟩ := a2 (by rw [← a1]; exact h0)
    have hs := (op_upE ha ((r1.1.append n b).1.there n) fun L => setF L n ⟨(fileOf L n).bytes, (fileOf L n).bytes.length⟩).1
    have hs : ((r1.1.append n b).1.sync n).2 = (r1.1.append n b).1.there n := hs
    rw [hs]
    unfold Dsk.there
    have hmem : n ∈ namesF (setF r1.1.files n ⟨(fileOf r1.1.files n).bytes ++ b, (fileOf r1.1.files n).synced⟩) := by
      rw [nmF_setF]
      split
      · assumption
      · simp
    rw [hf, if_pos hmem]
  · rw [if_neg h0, a1]
    rw [a1] at h0
    unfold Dsk.mayAppend at h0 ⊢
    rw [if_pos hn] at h0 ⊢
    split
    · exact .inr rfl
    · rename_i h9; rw [if_neg h9] at h0; exact absurd rfl h0
theorem fresh_mem {d : Dsk} (hd : (namesF d.files).Nodup) {n : Str} {b : List UInt8} (hb : b ≠ []) (h0 : (d.fresh n b).2 = 0) : n ∈ namesF (d.fresh n b).1.files := by
  have h1 := (fresh_files (n := n) (b := b) hd).2 h0
  exact mem_of_ne (by rw [h1]; exact hb)
theorem install_upE {d : Dsk} (h : d.Up) (hd : (namesF d.files).Nodup) {l : List Pc} (hr : rightL l = true) : (d.install l).2 = 0 ∨ (d.install l).2 = 5 := by
  have h1 := fresh_upE h hd (n := nextS) (by decide) (manifestB l)
  have h2 := fresh_up h nextS (manifestB l)
  have h3 := fresh_mem hd (n := nextS) (b := manifestB l) (manifestB_ne l)
  unfold Dsk.install andThen
  rw [if_pos hr]
  simp only
  generalize d.fresh nextS (manifestB l) = r at *
  by_cases h0 : r.2 = 0
  · rw [if_pos h0]
    left
    have hm := h3 h0
    have := (op_upE h2 (if okName manifestS then r.1.there nextS else 13) fun L => setF (delF L nextS) manifestS (fileOf L nextS)).1
    have e : (r.1.rename nextS manifestS).2 = (if okName manifestS then r.1.there nextS else 13) := this
    rw [e, if_pos (by decide)]
    unfold Dsk.there
    rw [if_pos hm]
  · rw [if_neg h0]
    rcases h1 with h1 | h1
    · exact absurd h1 h0
    · exact .inr h1
theorem rmEach_upE : ∀ (A : List Pc) {d : Dsk}, d.Up → (namesF d.files).Nodup → (A.map Pc.name).Nodup → (∀ q ∈ A, q.name ∈ namesF d.files) → (rmEach A d).2 = 0
  | [], _, _, _, _, _ => rfl
  | q :: A, d, h, hd, hl, hm => by
    have hl' := List.nodup_cons.1 (by simpa using hl : (q.name :: A.map Pc.name).Nodup)
    obtain ⟨a1, a2⟩ := op_upE h (d.there q.name) fun L => delF L q.name
    have a1 : (d.remove q.name).2 = d.there q.name := a1
    have ht : d.there q.name = 0 := by unfold Dsk.there; rw [if_pos (hm q (by simp))]
    have a2 : (d.remove q.name).1.files = delF d.files q.name := a2 ht
    have hu := remove_up h q.name
    unfold rmEach
    rw [if_neg (by rw [a1, ht]; simp)]
    generalize d.remove q.name = r at *
    refine rmEach_upE A hu (by rw [a2]; exact nodup_delF hd _) hl'.2 fun x hx => ?_
    rw [a2, namesF_delF, hd.mem_erase_iff]
    exact ⟨fun e => hl'.1 (e ▸ List.mem_map.2 ⟨x, hx, rfl⟩), hm x (by simp [hx])⟩
theorem sealed_nodup : ∀ {A : List Pc} {seen : List Str} {first : Int}, sealedFrom seen first A = true → (A.map Pc.name).Nodup
  | [], _, _, _ => by simp
  | q :: A, seen, first, h => by
    simp only [sealedFrom, Bool.and_eq_true, decide_eq_true_eq] at h
    have h5 := h.2
    rw [List.map_cons, List.nodup_cons]
    refine ⟨fun hc => ?_, sealed_nodup h5⟩
    obtain ⟨x, hx, e⟩ := List.mem_map.1 hc
    exact (sealed_unique h5).1 x hx (by rw [e]; simp)
/-- With any room: no error, or ErrFull and nothing compacted. -/
theorem comp_room {d : Dsk} {L : Lg} {all : List Ev} (h : KInv (WholeU unpackB) d.files L all) (hu : d.Up) (hov : L.over = false) (hall : all.length ≤ 1048576) :
    (compD all L d).e = 0 ∨ ((compD all L d).e = 5 ∧ (compD all L d).n = 0) := by
  obtain ⟨A, p, old, fs, m, h⟩ := h
  have hb := right_bound h.right p (by simp)
  have hfi := h.first
  have hlast := h.last
  have hdl : L.l.dropLast = A := by rw [h.l]; simp
  have hol : old.length ≤ all.length := by rw [h.all_, List.length_append]; omega
  obtain ⟨k, hk⟩ : ∃ k, p.first.toNat = k := ⟨_, rfl⟩
  have hkc : p.first = (k : Int) := by omega
  unfold compD
  rw [hlast, hdl, hk, if_neg (by simp [hov])]
  split
  · exact .inl rfl
  rename_i hl
  have hl : lone A = false := by simpa using hl
  rw [if_neg (by simp [hu.1])]
  have hk1 : 1 ≤ k := by
    rcases sealed_pos h.right.sealed_ with rfl | hh
    · simp [lone] at hl
    · rw [← h.right.first] at hh; omega
  have hfresh := h.fresh_name hl
  rw [hk] at hfresh
  have hdok := dName_ok (n := k) (by omega)
  have f0 := fresh_upE hu h.nd (okPiece_name hdok).1 (packB 0 (all.take k))
  have f1 := (fresh_files (d := d) (n := dName k) (b := packB 0 (all.take k)) h.nd).1
  have f2 := fresh_up hu (dName k) (packB 0 (all.take k))
  generalize d.fresh (dName k) (packB 0 (all.take k)) = r1 at *
  by_cases h0 : r1.2 = 0
  case neg =>
    rw [if_pos h0]
    rcases f0 with f0 | f0
    · exact absurd f0 h0
    · exact .inr ⟨f0, rfl⟩
  rw [if_neg (show ¬ r1.2 ≠ 0 by simp [h0])]
  have hseal : sealedFrom [] 0 [densePc k] = true := by
    have e1 : decide (1 ≤ ((k : Nat) : Int)) = true := decide_eq_true (by omega)
    have e2 : decide (((k : Nat) : Int) ≤ 1099511627776) = true := decide_eq_true (by omega)
    show ((okPiece (dName k) && !decide (dName k ∈ ([] : List Str)) && decide ((0 : Int) = 0) && decide (1 ≤ ((k : Nat) : Int)) && decide (((k : Nat) : Int) ≤ 1099511627776)) && true) = true
    rw [hdok, e1, e2]
    simp
  have hr2 : rightL ([densePc k] ++ [p]) = true := (rightL_iff _ _).2 ⟨by simp, hseal, h.right.name, by simp only [List.map_cons, List.map_nil, List.mem_singleton]; exact hfresh p (by rw [h.l]; simp), by simp only [endOf, densePc]; omega, h.right.count, h.right.dense⟩
  have i0 := install_upE f2 f1.1 hr2
  have i1 := (install_files (d := r1.1) (l := [densePc k] ++ [p]) f1.1).1
  have i2 := install_up f2 ([densePc k] ++ [p])
  have hsw : L.swap r1.1 [densePc k] = if (r1.1.install ([densePc k] ++ [p])).2 ≠ 0 then ⟨(r1.1.install ([densePc k] ++ [p])).1, { L with over := true }, (r1.1.install ([densePc k] ++ [p])).2⟩ else ⟨(r1.1.install ([densePc k] ++ [p])).1, { L with l := [densePc k] ++ [p] }, 0⟩ := by
    unfold Lg.swap
    rw [hlast, hov, if_neg (by simp), if_neg (by rw [hr2]; decide)]
  rw [hsw]
  clear hsw
  generalize r1.1.install ([densePc k] ++ [p]) = r2 at *
  by_cases h2 : r2.2 = 0
  case neg =>
    rw [if_pos h2]
    simp only
    rw [if_pos h2]
    rcases i0 with i0 | i0
    · exact absurd i0 h2
    · exact .inr ⟨i0, rfl⟩
  rw [if_neg (show ¬ r2.2 ≠ 0 by simp [h2])]
  simp only
  rw [if_neg (show ¬ (0 : Int) ≠ 0 by simp)]
  have hz : (rmEach A r2.1).2 = 0 := rmEach_upE A i2 i1.1 (sealed_nodup h.right.sealed_) fun q hq => by
    obtain ⟨b, e, hf, hw⟩ := sealedF_at h.old_ q hq
    have hok := okPiece_name (right_name h.right q (by simp [hq]))
    refine mem_of_ne ?_
    rw [i1.2 q.name (by rintro (e | e)
                        · exact hok.2.2 e
                        · exact hok.2.1 e), f1.2 q.name (hfresh q (by rw [h.l]; simp [hq])), hf]
    exact hw.2.2.1
  rw [if_neg (show ¬ (rmEach A r2.1).2 ≠ 0 by simp [hz])]
  exact .inl rfl
end Go.Proofs.YtjapijndljknnaaGreatDoor
