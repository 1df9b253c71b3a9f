/-
  Texts merged by a program of this claim's: LogCalm.
-/
import Derived.Test.YtjapijndljknnaaGreatDoorM14
/-
  A log on a calm disk with room: what its calls do (plain words).
-/
namespace Go.Proofs.YtjapijndljknnaaGreatDoor
open Go

/-- The log's pieces are A and the open one p; its disk is calm, and has their files, the manifest, and no other. -/
structure LInv (d : Dsk) (L : Lg) (A : List Pc) (p : Pc) : Prop where
  calm : Calm d
  over : L.over = false
  l : L.l = A ++ [p]
  right : RightP A p
  names : (namesF d.files).Perm (manifestS :: L.l.map Pc.name)
  seg : ∀ q ∈ L.l, q.name = segName q.first.toNat
  acked0 : p.first ≤ L.acked
  acked1 : L.acked ≤ L.n
  man : fileOf d.files manifestS = ⟨manifestB L.l, (manifestB L.l).length⟩

section
variable {d : Dsk} {L : Lg} {A : List Pc} {p : Pc}
theorem LInv.open_ (h : LInv d L A p) : lastP L.l = p := by rw [h.l, lastP_snoc]
theorem LInv.few (h : LInv d L A p) : d.files.length ≤ 101 := by
  have e := h.names.length_eq
  have f := h.right.few
  simp only [namesF, List.length_map, List.length_cons, h.l, List.length_append, List.length_nil] at e
  omega
theorem LInv.mem (h : LInv d L A p) : p.name ∈ namesF d.files := by
  rw [h.names.mem_iff, h.l]; simp
theorem LInv.firsts (h : LInv d L A p) : 0 ≤ p.first ∧ ∀ q ∈ L.l, 0 ≤ q.first ∧ q.first ≤ p.first := by
  have e := sealed_end A [] 0 h.right.sealed_
  have f := h.right.first
  refine ⟨by omega, fun q hq => ?_⟩
  rw [h.l, List.mem_append, List.mem_singleton] at hq
  rcases hq with hq | rfl
  · have := e.2 q hq; omega
  · omega
theorem LInv.no_next (h : LInv d L A p) : nextS ∉ namesF d.files := by
  rw [h.names.mem_iff]
  simp only [List.mem_cons, not_or]
  refine ⟨by decide, fun hc => ?_⟩
  obtain ⟨q, hq, hn⟩ := List.mem_map.1 hc
  rw [h.seg q hq] at hn
  exact absurd (List.cons.inj hn).1 (by decide)
theorem LInv.no_seg (h : LInv d L A p) {n : Nat} (hn : p.first < n) : segName n ∉ namesF d.files := by
  rw [h.names.mem_iff]
  simp only [List.mem_cons, not_or]
  refine ⟨fun hc => absurd (List.cons.inj hc).1 (by decide), fun hc => ?_⟩
  obtain ⟨q, hq, hm⟩ := List.mem_map.1 hc
  rw [h.seg q hq] at hm
  have := segName_inj hm
  have := h.firsts.2 q hq
  omega
theorem morePcs_eq (h : LInv d L A p) : morePcs L = (A ++ [{ p with count := L.n - p.first }]) ++ [⟨segName L.n, L.n, 0, false⟩] := by
  unfold morePcs
  rw [h.open_, h.l, List.dropLast_concat]
  simp
theorem LInv.more (h : LInv d L A p) (h100 : A.length + 1 < 100) (hn : p.first < L.n) (hN : (L.n : Int) ≤ 1099511627776) :
    RightP (A ++ [{ p with count := L.n - p.first }]) ⟨segName L.n, L.n, 0, false⟩ := by
  have r := h.right
  have f := h.firsts.1
  refine ⟨by simpa using h100, (sealedFrom_snoc _ _ _ _).2 ⟨r.sealed_, r.name, by simp, r.apart, r.first, ?_, ?_⟩, segName_ok (by omega), ?_, ?_, rfl, rfl⟩
  · simp only; omega
  · simp only; omega
  · intro hc
    have hm := h.no_seg hn
    rw [h.names.mem_iff, h.l] at hm
    refine hm (List.mem_cons_of_mem _ ?_)
    simpa using hc
  · rw [endOf_snoc, ← r.first]
    simp only; omega
theorem another_calm' (h : LInv d L A p) (h100 : A.length + 1 < 100) (hn : p.first < L.n) (hN : (L.n : Int) ≤ 1099511627776) (hroom : ((usedF d.files : Nat) : Int) + (headB L.n).length + (manifestB (morePcs L)).length ≤ d.most) :
    ∃ F, L.another d = ⟨{ d with files := F }, { L with acked := L.n, l := morePcs L, bytes := (headB L.n).length }, 0⟩ ∧
      LInv { d with files := F } { L with acked := L.n, l := morePcs L, bytes := (headB L.n).length } (A ++ [{ p with count := L.n - p.first }]) ⟨segName L.n, L.n, 0, false⟩ ∧
      usedF F ≤ usedF d.files + (headB L.n).length + (manifestB (morePcs L)).length ∧
      ∀ m, fileOf F m = if m = manifestS then ⟨manifestB (morePcs L), (manifestB (morePcs L)).length⟩ else if m = segName L.n then ⟨headB L.n, (headB L.n).length⟩
        else if m = p.name then ⟨(fileOf d.files p.name).bytes, (fileOf d.files p.name).bytes.length⟩ else fileOf d.files m := by
  have hr := h.more h100 hn hN
  have hrl : rightL (morePcs L) = true := by rw [morePcs_eq h]; exact (rightL_iff _ _).2 hr
  have hml := manifestB_len hrl
  have hhl := headB_len (n := L.n) (by omega)
  have hfew := h.few
  have hsn := h.no_seg hn
  have hnx := h.no_next
  have hok := segName_ok (n := L.n) (by omega)
  have hnm : ¬ manifestS = segName L.n := fun hc => (okPiece_name hok).2.1 hc.symm
  have hpm : ¬ manifestS = p.name := fun hc => (okPiece_name hr.name).2.1 (by
    have := (okPiece_name h.right.name).2.1
    exact absurd hc.symm this)
  have hnp : ¬ segName L.n = p.name := fun hc => hsn (hc ▸ h.mem)
  -- the three steps
  have e1 := sync_calm h.calm h.mem
  have c1 := h.calm.setF p.name ⟨(fileOf d.files p.name).bytes, (fileOf d.files p.name).bytes.length⟩
  have u1 : usedF (setF d.files p.name ⟨(fileOf d.files p.name).bytes, (fileOf d.files p.name).bytes.length⟩) = usedF d.files := by
    have := usedF_setF d.files p.name ⟨(fileOf d.files p.name).bytes, (fileOf d.files p.name).bytes.length⟩
    simp only at this; omega
  have n1 : namesF (setF d.files p.name ⟨(fileOf d.files p.name).bytes, (fileOf d.files p.name).bytes.length⟩) = namesF d.files := by rw [nmF_setF, if_pos h.mem]
  have f1 := fun m => fileOf_setF d.files p.name m ⟨(fileOf d.files p.name).bytes, (fileOf d.files p.name).bytes.length⟩
  have l1 : (setF d.files p.name ⟨(fileOf d.files p.name).bytes, (fileOf d.files p.name).bytes.length⟩).length = d.files.length := by rw [length_setF, if_pos h.mem]
  generalize setF d.files p.name ⟨(fileOf d.files p.name).bytes, (fileOf d.files p.name).bytes.length⟩ = F1 at *
  have e2 := fresh_calm (n := segName L.n) (b := headB L.n) c1 (okPiece_name hok).1 (by simp only [u1]; omega) (by simp only [l1]; omega)
  simp only at e2
  rw [delF_miss (by rw [n1]; exact hsn)] at e2
  have n2 : namesF (F1 ++ [(segName L.n, (⟨headB L.n, (headB L.n).length⟩ : DFile))]) = namesF d.files ++ [segName L.n] := by rw [← n1]; simp [namesF]
  have c2 : Calm { d with files := F1 ++ [(segName L.n, ⟨headB L.n, (headB L.n).length⟩)] } := c1.same _ (by
    rw [← setF_miss (by rw [n1]; exact hsn)]; exact nodup_setF c1.names _ _)
  have u2 : usedF (F1 ++ [(segName L.n, (⟨headB L.n, (headB L.n).length⟩ : DFile))]) = usedF d.files + (headB L.n).length := by
    rw [← u1]; simp [usedF]
  have f2 : ∀ m, fileOf (F1 ++ [(segName L.n, (⟨headB L.n, (headB L.n).length⟩ : DFile))]) m = if m = segName L.n then ⟨headB L.n, (headB L.n).length⟩ else fileOf F1 m := fun m => by
    rw [← setF_miss (by rw [n1]; exact hsn), fileOf_setF]
    by_cases hm : m = segName L.n
    · rw [if_pos hm.symm, if_pos hm]
    · rw [if_neg (Ne.symm hm), if_neg hm]
  generalize F1 ++ [(segName L.n, (⟨headB L.n, (headB L.n).length⟩ : DFile))] = F2 at *
  have l2 : F2.length = d.files.length + 1 := by
    have := congrArg List.length n2
    simpa [namesF] using this
  have hnx2 : nextS ∉ namesF F2 := by
    rw [n2]; simp only [List.mem_append, List.mem_singleton, not_or]
    exact ⟨hnx, fun hc => (okPiece_name hok).2.2 hc.symm⟩
  have e3 := install_calm (l := morePcs L) c2 hrl (by simp only [u2]; omega) (by simp only [l2]; omega)
  simp only at e3
  rw [delF_miss hnx2] at e3
  have hman : manifestS ∈ namesF F2 := by
    rw [n2, List.mem_append, h.names.mem_iff]; simp
  have n3 : namesF (setF F2 manifestS ⟨manifestB (morePcs L), (manifestB (morePcs L)).length⟩) = namesF F2 := by rw [nmF_setF, if_pos hman]
  have c3 := c2.setF manifestS ⟨manifestB (morePcs L), (manifestB (morePcs L)).length⟩
  have u3 := usedF_setF F2 manifestS ⟨manifestB (morePcs L), (manifestB (morePcs L)).length⟩
  have f3 := fun m => fileOf_setF F2 manifestS m ⟨manifestB (morePcs L), (manifestB (morePcs L)).length⟩
  generalize setF F2 manifestS ⟨manifestB (morePcs L), (manifestB (morePcs L)).length⟩ = F3 at *
  have hF : ∀ m, fileOf F3 m = if m = manifestS then ⟨manifestB (morePcs L), (manifestB (morePcs L)).length⟩ else if m = segName L.n then ⟨headB L.n, (headB L.n).length⟩
        else if m = p.name then ⟨(fileOf d.files p.name).bytes, (fileOf d.files p.name).bytes.length⟩ else fileOf d.files m := fun m => by
    rw [f3, f2, f1]
    by_cases h1 : m = manifestS
    · subst h1; simp
    · rw [if_neg (Ne.symm h1), if_neg h1]
      by_cases h2 : m = segName L.n
      · rw [if_pos h2, if_pos h2]
      · rw [if_neg h2, if_neg h2]
        by_cases h3 : m = p.name
        · rw [if_pos h3.symm, if_pos h3]
        · rw [if_neg (Ne.symm h3), if_neg h3]
  refine ⟨F3, ?_, ⟨c3, h.over, morePcs_eq h, hr, ?_, ?_, by simp only; omega, by simp only; omega, ?_⟩, ?_, hF⟩
  · unfold Lg.another
    have hll : ¬ 100 ≤ L.l.length := by rw [h.l]; simp only [List.length_append, List.length_singleton]; omega
    rw [if_neg hll, h.open_, e1]
    simp only [ne_eq, not_true_eq_false, if_false]
    rw [show ({ d with files := F1 } : Dsk).begun L.n = _ from e2]
    simp only [not_true_eq_false, if_false]
    rw [e3]
    simp only [not_true_eq_false, if_false]
  · simp only
    rw [n3, n2, morePcs_eq h]
    have hp := h.names
    rw [h.l] at hp
    refine (hp.append_right [segName L.n]).trans ?_
    simp
  · intro q hq
    simp only at hq
    rw [morePcs_eq h, List.mem_append, List.mem_singleton] at hq
    rcases hq with hq | rfl
    · rw [List.mem_append, List.mem_singleton] at hq
      rcases hq with hq | rfl
      · exact h.seg q (by rw [h.l]; simp [hq])
      · exact h.seg p (by rw [h.l]; simp)
    · simp
  · simp only
    rw [hF, if_pos rfl]
  · simp only at u3
    omega
theorem another_calm (h : LInv d L A p) (h100 : A.length + 1 < 100) (hn : p.first < L.n) (hN : (L.n : Int) ≤ 1099511627776) (hroom : ((usedF d.files : Nat) : Int) + 6227 ≤ d.most) :
    ∃ F, L.another d = ⟨{ d with files := F }, { L with acked := L.n, l := morePcs L, bytes := (headB L.n).length }, 0⟩ ∧
      LInv { d with files := F } { L with acked := L.n, l := morePcs L, bytes := (headB L.n).length } (A ++ [{ p with count := L.n - p.first }]) ⟨segName L.n, L.n, 0, false⟩ ∧
      usedF F ≤ usedF d.files + 6227 ∧
      ∀ m, fileOf F m = if m = manifestS then ⟨manifestB (morePcs L), (manifestB (morePcs L)).length⟩ else if m = segName L.n then ⟨headB L.n, (headB L.n).length⟩
        else if m = p.name then ⟨(fileOf d.files p.name).bytes, (fileOf d.files p.name).bytes.length⟩ else fileOf d.files m := by
  have hr := h.more h100 hn hN
  have hrl : rightL (morePcs L) = true := by rw [morePcs_eq h]; exact (rightL_iff _ _).2 hr
  have hml := manifestB_len hrl
  have hhl := headB_len (n := L.n) (by omega)
  obtain ⟨F, h1, h2, h3, h4⟩ := another_calm' h h100 hn hN (by omega)
  exact ⟨F, h1, h2, by omega, h4⟩
theorem put_calm (h : LInv d L A p) (es : List Ev) (hroom : ((usedF d.files + (frmB es).length : Nat) : Int) ≤ d.most) :
    L.put d es = ⟨{ d with files := setF d.files p.name ⟨(fileOf d.files p.name).bytes ++ frmB es, (fileOf d.files p.name).synced⟩ }, { L with n := L.n + es.length, bytes := L.bytes + (frmB es).length }, 0⟩ ∧
      LInv { d with files := setF d.files p.name ⟨(fileOf d.files p.name).bytes ++ frmB es, (fileOf d.files p.name).synced⟩ } { L with n := L.n + es.length, bytes := L.bytes + (frmB es).length } A p ∧
      usedF (setF d.files p.name ⟨(fileOf d.files p.name).bytes ++ frmB es, (fileOf d.files p.name).synced⟩) = usedF d.files + (frmB es).length := by
  have hpm : ¬ p.name = manifestS := (okPiece_name h.right.name).2.1
  have e := append_calm (n := p.name) (b := frmB es) h.calm (okPiece_name h.right.name).1 hroom (.inl h.mem)
  have u := usedF_setF d.files p.name ⟨(fileOf d.files p.name).bytes ++ frmB es, (fileOf d.files p.name).synced⟩
  refine ⟨?_, ⟨h.calm.setF _ _, h.over, h.l, h.right, ?_, h.seg, h.acked0, ?_, ?_⟩, ?_⟩
  · unfold Lg.put
    rw [h.open_, e]
    simp
  · simp only
    rw [nmF_setF, if_pos h.mem]; exact h.names
  · have := h.acked1
    simp only; omega
  · simp only
    rw [fileOf_setF, if_neg hpm]; exact h.man
  · simp only [List.length_append] at u
    omega
theorem lsync_calm (h : LInv d L A p) :
    L.sync d = ⟨{ d with files := setF d.files p.name ⟨(fileOf d.files p.name).bytes, (fileOf d.files p.name).bytes.length⟩ }, { L with acked := L.n }, 0⟩ ∧
      LInv { d with files := setF d.files p.name ⟨(fileOf d.files p.name).bytes, (fileOf d.files p.name).bytes.length⟩ } { L with acked := L.n } A p ∧
      usedF (setF d.files p.name ⟨(fileOf d.files p.name).bytes, (fileOf d.files p.name).bytes.length⟩) = usedF d.files := by
  have hpm : ¬ p.name = manifestS := (okPiece_name h.right.name).2.1
  have e := sync_calm h.calm h.mem
  have u := usedF_setF d.files p.name ⟨(fileOf d.files p.name).bytes, (fileOf d.files p.name).bytes.length⟩
  have a0 := h.acked0
  have a1 := h.acked1
  refine ⟨?_, ⟨h.calm.setF _ _, h.over, h.l, h.right, ?_, h.seg, by simp only; omega, by simp only; omega, ?_⟩, ?_⟩
  · unfold Lg.sync
    rw [h.over, h.open_, e]
    simp
  · simp only
    rw [nmF_setF, if_pos h.mem]; exact h.names
  · simp only
    rw [fileOf_setF, if_neg hpm]; exact h.man
  · simp only at u
    omega
theorem add_stay (h : LInv d L A p) {es : List Ev} (h1 : es.length ≠ 0) (h2 : es.length ≤ 4096) (hst : ¬ (p.first < L.n ∧ L.size ≤ L.bytes)) : L.add d es = L.put d es := by
  unfold Lg.add Lg.roomed
  rw [h.over, h.open_, if_neg hst, if_neg (by simp), if_neg h1, if_neg (by omega), if_neg (by simp)]
theorem add_more (h : LInv d L A p) {es : List Ev} (h1 : es.length ≠ 0) (h2 : es.length ≤ 4096) (hst : p.first < L.n ∧ L.size ≤ L.bytes) (he : (L.another d).e = 0) : L.add d es = (L.another d).L.put (L.another d).d es := by
  unfold Lg.add Lg.roomed
  rw [h.over, h.open_, if_pos hst, if_neg (by simp), if_neg h1, if_neg (by omega), if_neg (by simp [he])]

/-- A new log on a new disk. -/
theorem create_calm' (m : Int) (hm : 40 ≤ m) {size : Int} (hs : 64 ≤ size) (hs2 : size ≤ 16777216) :
    ∃ F, createD (newDsk m) size = ({ newDsk m with files := F }, 0) ∧ LInv { newDsk m with files := F } (newLg size) [] ⟨segName 0, 0, 0, false⟩ ∧ usedF F ≤ 40 ∧ F = [(segName 0, ⟨headB 0, (headB 0).length⟩), (manifestS, ⟨manifestB (newLg size).l, (manifestB (newLg size).l).length⟩)] := by
  have hc : Calm (newDsk m) := ⟨rfl, rfl, by simp [newDsk, namesF]⟩
  have hR : RightP [] ⟨segName 0, 0, 0, false⟩ := ⟨by simp, rfl, segName_ok (by decide), by simp, rfl, rfl, rfl⟩
  have hrl : rightL (newLg size).l = true := (rightL_iff [] _).2 hR
  have hs0 : segName 0 = [115, 48] := by rw [segName, Lib.decDigits_one (by omega)]; rfl
  have hh : (headB 0).length = 9 := by rw [headB, uintB_small (by omega)]; rfl
  have hml : (manifestB (newLg size).l).length = 15 := by
    simp only [manifestB, manifestIn, newLg, sealB, List.flatMap_cons, List.flatMap_nil, pieceB, blobB, hs0, List.length_append, List.length_cons, List.length_nil, sumB_len]
    rw [uintB_small (by simp), uintB_small (by simp), uintB_small (by simp)]
    simp
  have e1 := fresh_calm (n := segName 0) (b := headB 0) hc (okPiece_name (segName_ok (by decide))).1 (by simp [newDsk, usedF, hh]; omega) (by simp [newDsk])
  have e1' : (newDsk m).begun 0 = ({ newDsk m with files := [(segName 0, ⟨headB 0, (headB 0).length⟩)] }, 0) := e1
  have c1 : Calm { newDsk m with files := [(segName 0, (⟨headB 0, (headB 0).length⟩ : DFile))] } := hc.same _ (by simp [namesF])
  have e2 := install_calm c1 hrl (by simp [newDsk, usedF, hh, hml]; omega) (by simp)
  have hne : ¬ segName 0 = nextS := (okPiece_name (segName_ok (by decide))).2.2
  have hnm : ¬ segName 0 = manifestS := (okPiece_name (segName_ok (by decide))).2.1
  have e2' : setF (delF [(segName 0, (⟨headB 0, (headB 0).length⟩ : DFile))] nextS) manifestS ⟨manifestB (newLg size).l, (manifestB (newLg size).l).length⟩ = [(segName 0, ⟨headB 0, (headB 0).length⟩), (manifestS, ⟨manifestB (newLg size).l, (manifestB (newLg size).l).length⟩)] := by
    simp [delF, setF, hne, hnm]
  simp only at e2
  rw [e2'] at e2
  refine ⟨_, ?_, ⟨⟨rfl, rfl, ?_⟩, rfl, rfl, hR, ?_, ?_, by simp [newLg], by simp [newLg], ?_⟩, ?_, rfl⟩
  · unfold createD
    have hrd : (newDsk m).read manifestS = ([], 13) := rfl
    rw [if_neg (by omega), hrd, if_neg (by decide), if_neg (by decide), e1', if_neg (by simp), e2]
  · simp [namesF, hnm]
  · simp only [namesF, newLg, List.map_cons, List.map_nil]
    exact List.Perm.swap _ _ _
  · intro q hq
    simp only [newLg, List.mem_singleton] at hq
    subst hq; rfl
  · simp [fileOf, getF, hnm]
  · simp [usedF, hh, hml]
end
end Go.Proofs.YtjapijndljknnaaGreatDoor
