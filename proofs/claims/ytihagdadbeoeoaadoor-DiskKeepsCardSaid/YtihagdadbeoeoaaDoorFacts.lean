/-
  Plain facts on disks: no program in sight.
-/
import Derived.Test.YtihagdadbeoeoaaDoorLow
namespace Go.Proofs.YtihagdadbeoeoaaDoor
open Go Go.RowKit Go.Sort

theorem getF_setF (L : List (Str × DFile)) (n m : Str) (f : DFile) : getF (setF L n f) m = if n = m then some f else getF L m := by
  induction L with
  | nil => simp [setF, getF]
  | cons x L ih =>
    obtain ⟨k, g⟩ := x
    by_cases hk : k = n
    · subst hk
      by_cases hm : k = m
      · simp [setF, getF, hm]
      · simp [setF, getF, hm]
    · by_cases hm : k = m
      · subst hm
        simp [setF, getF, hk, Ne.symm hk]
      · simp [setF, getF, hk, hm, ih]
theorem fileOf_setF (L : List (Str × DFile)) (n m : Str) (f : DFile) : fileOf (setF L n f) m = if n = m then f else fileOf L m := by
  unfold fileOf
  rw [getF_setF]
  split <;> rfl
theorem getF_none (L : List (Str × DFile)) (n : Str) : getF L n = none ↔ n ∉ namesF L := by
  induction L with
  | nil => simp [getF, namesF]
  | cons x L ih =>
    obtain ⟨k, g⟩ := x
    by_cases hk : k = n
    · simp [getF, namesF, hk]
    · simp only [getF, hk, if_false, ih, namesF, List.map_cons, List.mem_cons, not_or]
      exact ⟨fun h => ⟨fun e => hk e.symm, h⟩, fun h => h.2⟩
theorem getF_some_mem {L : List (Str × DFile)} {n : Str} {f : DFile} (h : getF L n = some f) : (n, f) ∈ L := by
  induction L with
  | nil => simp [getF] at h
  | cons x L ih =>
    obtain ⟨k, g⟩ := x
    by_cases hk : k = n
    · simp [getF, hk] at h; subst h; simp [hk]
    · simp [getF, hk] at h; exact List.mem_cons_of_mem _ (ih h)
theorem setF_self {L : List (Str × DFile)} {n : Str} (h : n ∈ namesF L) : setF L n (fileOf L n) = L := by
  induction L with
  | nil => simp [namesF] at h
  | cons x L ih =>
    obtain ⟨k, g⟩ := x
    by_cases hk : k = n
    · simp [setF, fileOf, getF, hk]
    · have hn : n ∈ namesF L := by
        simp only [namesF, List.map_cons, List.mem_cons] at h
        rcases h with h | h
        · exact absurd h.symm hk
        · exact h
      have := ih hn
      simp only [fileOf] at this
      simp [setF, fileOf, getF, hk, this]
theorem Dsk.Ok.le {d : Dsk} (ok : d.Ok) (n : Str) : (fileOf d.files n).synced ≤ (fileOf d.files n).bytes.length := by
  unfold fileOf
  cases hg : getF d.files n with
  | none => simp
  | some f => exact ok.synced (n, f) (getF_some_mem hg)
theorem mem_list {d : Dsk} {n : Str} : n ∈ d.list ↔ n ∈ namesF d.files := (List.mergeSort_perm _ _).mem_iff
theorem leaves_le (f : DFile) (k : Int) (h : f.synced ≤ f.bytes.length) : (leaves f k).synced = (leaves f k).bytes.length := by
  simp only [leaves, List.length_take]; omega
theorem leaves_self {f : DFile} (k : Int) (h : f.synced = f.bytes.length) : leaves f k = f := by
  obtain ⟨b, s⟩ := f
  simp only at h
  subst h
  simp [leaves]
/-- Behind a crash all that was there is synced. -/
theorem crashF_synced : ∀ (ns : List Str) (ks : List Int) (L : List (Str × DFile)), (∀ x, (fileOf L x).synced ≤ (fileOf L x).bytes.length) → ∀ m, (m ∈ ns ∨ (fileOf L m).synced = (fileOf L m).bytes.length) →
    (fileOf (crashF ns ks L) m).synced = (fileOf (crashF ns ks L) m).bytes.length
  | [], _, L, _, m, h => by simpa [crashF] using h
  | n :: ns, ks, L, hle, m, h => by
    simp only [crashF]
    refine crashF_synced ns ks.tail _ (fun x => ?_) m ?_
    · rw [fileOf_setF]
      split
      · exact Nat.le_of_eq (leaves_le _ _ (hle n))
      · exact hle x
    · by_cases hnm : n = m
      · right
        rw [fileOf_setF, if_pos hnm]
        exact leaves_le _ _ (hle n)
      · rcases h with h | h
        · left
          rcases List.mem_cons.1 h with h | h
          · exact absurd h.symm hnm
          · exact h
        · right
          rw [fileOf_setF, if_neg hnm]; exact h
theorem crashF_self : ∀ (ns : List Str) (ks : List Int) (L : List (Str × DFile)), (∀ n ∈ ns, n ∈ namesF L) → (∀ n ∈ ns, (fileOf L n).synced = (fileOf L n).bytes.length) → crashF ns ks L = L
  | [], _, _, _, _ => rfl
  | n :: ns, ks, L, hm, hs => by
    have e : setF L n (leaves (fileOf L n) (ks.headD 0)) = L := by
      rw [leaves_self _ (hs n (by simp))]; exact setF_self (hm n (by simp))
    simp only [crashF]
    rw [e]
    exact crashF_self ns ks.tail L (fun x hx => hm x (by simp [hx])) (fun x hx => hs x (by simp [hx]))
theorem crash_names {d : Dsk} (ks : List Int) : namesF (d.crash ks).files = namesF d.files := namesF_crashF _ _ _ (fun _n hn => mem_list.1 hn)
theorem crash_list {d : Dsk} (ks : List Int) : (d.crash ks).list = d.list := by unfold Dsk.list; rw [crash_names]
theorem crash_synced {d : Dsk} (ok : d.Ok) (ks : List Int) (n : Str) : (fileOf (d.crash ks).files n).synced = (fileOf (d.crash ks).files n).bytes.length := by
  refine crashF_synced d.list ks d.files ok.le n ?_
  by_cases h : n ∈ namesF d.files
  · exact .inl (mem_list.2 h)
  · right
    have : getF d.files n = none := (getF_none _ _).2 h
    simp [fileOf, this]
theorem crash_crash {d : Dsk} (ok : d.Ok) (ks js : List Int) : (d.crash ks).crash js = d.crash ks := by
  have h : crashF (d.crash ks).list js (d.crash ks).files = (d.crash ks).files := crashF_self _ _ _ (fun n hn => mem_list.1 hn) (fun n _ => crash_synced ok ks n)
  show ({ d.crash ks with files := crashF (d.crash ks).list js (d.crash ks).files, arm := -1, down := false } : Dsk) = d.crash ks
  rw [h]; rfl
end Go.Proofs.YtihagdadbeoeoaaDoor
