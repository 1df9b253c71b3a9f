/-
  Texts merged by a program of this claim's: Less7, Picks, Law6B.
-/
import Derived.Test.YtjapijndljknnaaGreatDoorM40
import Derived.Test.YtjapijndljknnaaGreatDoorM28
import Derived.Lib.ItoaNum
import Derived.Test.YtjapijndljknnaaGreatDoorM2
import Derived.Test.YtjapijndljknnaaGreatDoorM9
import Derived.Test.YtjapijndljknnaaGreatDoorM39
import Derived.Test.YtjapijndljknnaaGreatDoorM31
import Derived.Test.YtjapijndljknnaaGreatDoorM37
/-
  Events that are all alike take less room behind compaction: plain words. The examples of chapter 07 in plain words.
-/
namespace Go.Proofs.YtjapijndljknnaaGreatDoor
open Go
set_option maxRecDepth 100000
/-! ### How much room files take -/
theorem usedF_names : ∀ {F : List (Str × DFile)}, (namesF F).Nodup → usedF F = ((namesF F).map fun x => (fileOf F x).bytes.length).sum
  | [], _ => rfl
  | (n, f) :: F, h => by
    have h' := List.nodup_cons.1 (show (n :: namesF F).Nodup from h)
    have e : (namesF F).map (fun x => (fileOf ((n, f) :: F) x).bytes.length) = (namesF F).map fun x => (fileOf F x).bytes.length := by
      refine List.map_congr_left fun x hx => ?_
      rw [fileOf_cons, if_neg fun hc => h'.1 (by rw [hc]; exact hx)]
    rw [usedF_cons, usedF_names h'.2]
    show _ = ((n :: namesF F).map fun x => (fileOf ((n, f) :: F) x).bytes.length).sum
    rw [List.map_cons, List.sum_cons, e, fileOf_cons, if_pos rfl]
/-! ### Columns of one number -/
/-! ### A log whose sealed pieces have their size -/
structure Lz (c : Nat) (d : Dsk) (L : Lg) : Prop where
  ak : Ak 64 c d L
  file : (fileOf d.files (lastP L.l).name).bytes.length = L.bytes
  sealed_ : ∀ q ∈ L.l.dropLast, 64 ≤ (fileOf d.files q.name).bytes.length
theorem Lz.new : ∃ d, createD (newDsk 1048576) 64 = (d, 0) ∧ Lz 0 d (newLg 64) := by
  obtain ⟨F, h1, h2, h3, h4⟩ := create_calm' 1048576 (by omega) (size := 64) (by omega) (by omega)
  have hb : (headB 0).length ≤ 18 := headB_len (n := 0) (by omega)
  exact ⟨_, h1, ⟨⟨⟨_, _, h2, by simp⟩, rfl, by simpa using h3, by simp [newLg], by simpa [newLg] using hb, rfl⟩, by simp only [h4]; simp [fileOf, getF, newLg, lastP], fun q hq => by simp [newLg] at hq⟩⟩
section
variable {c : Nat} {d : Dsk} {L : Lg} {es : List Ev}
theorem Lz.add (h : Lz c d L) (hc : c < 60) (h1 : es.length ≠ 0) (h2 : es.length ≤ 30) : ∃ d' L', L.add d es = ⟨d', L', 0⟩ ∧ Lz (c + 1) d' L' := by
  obtain ⟨d1, L1, a1, a2, -⟩ := h.ak.add hc h1 h2
  refine ⟨d1, L1, a1, ?_⟩
  obtain ⟨⟨⟨A, p, hi, hA⟩, hm, hu, hn, hb, hsz⟩, hfl, hse⟩ := h
  rw [hi.open_] at hfl
  have ha0 := hi.acked0
  have ha1 := hi.acked1
  have hf := frm_le h2
  have hdl : L.l.dropLast = A := by rw [hi.l]; simp
  rw [hdl] at hse
  by_cases hst : p.first < L.n ∧ L.size ≤ L.bytes
  · obtain ⟨F, b1, b2, b3, b4⟩ := another_calm hi (by omega) hst.1 (by omega) (by rw [hm]; omega)
    obtain ⟨p1, p2, p3⟩ := put_calm b2 es (by simp only; rw [hm]; omega)
    have e := add_more hi h1 (by omega) hst (by rw [b1])
    rw [b1] at e
    rw [e.trans p1] at a1
    have hne : segName L.n ≠ p.name := fun hc => hi.no_seg hst.1 (hc ▸ hi.mem)
    have hpm : ¬ p.name = manifestS := (okPiece_name hi.right.name).2.1
    have hsm : ¬ segName L.n = manifestS := (okPiece_name (segName_ok (n := L.n) (by omega))).2.1
    have e1 := congrArg LgR.d a1
    have e2 := congrArg LgR.L a1
    simp only at e1 e2
    subst e1 e2
    have hmore := morePcs_eq hi
    have hlast : lastP (morePcs L) = ⟨segName L.n, L.n, 0, false⟩ := by rw [hmore, lastP_snoc]
    have hdl2 : (morePcs L).dropLast = A ++ [{ p with count := L.n - p.first }] := by rw [hmore]; simp
    have f0 := b4 (segName L.n)
    rw [if_neg hsm, if_pos rfl] at f0
    have fk := fun m => fileOf_setF F (segName L.n) m ⟨(fileOf F (segName L.n)).bytes ++ frmB es, (fileOf F (segName L.n)).synced⟩
    refine ⟨a2, ?_, fun q hq => ?_⟩
    · simp only
      rw [hlast]
      simp only
      rw [fk, if_pos rfl, f0]
      simp
    · simp only at hq ⊢
      rw [hdl2, List.mem_append, List.mem_singleton] at hq
      rcases hq with hq | rfl
      · have hq' : q ∈ L.l := by rw [hi.l]; simp [hq]
        have n1 : segName L.n ≠ q.name := fun hc => hi.no_seg hst.1 (by rw [hc, hi.names.mem_iff]; simp only [List.mem_cons]; exact .inr (List.mem_map.2 ⟨q, hq', rfl⟩))
        have n2 : ¬ q.name = manifestS := (okPiece_name (right_name hi.right q (by simp [hq]))).2.1
        have n3 : ¬ q.name = p.name := fun hc => hi.right.apart (by rw [← hc]; exact List.mem_map.2 ⟨q, hq, rfl⟩)
        rw [fk, if_neg n1, b4, if_neg n2, if_neg (Ne.symm n1), if_neg n3]
        exact hse q hq
      · simp only
        rw [fk, if_neg hne, b4, if_neg hpm, if_neg (Ne.symm hne), if_pos rfl]
        have := hst.2
        simp only
        omega
  · obtain ⟨p1, p2, p3⟩ := put_calm hi es (by rw [hm]; omega)
    rw [(add_stay hi h1 (by omega) hst).trans p1] at a1
    have e1 := congrArg LgR.d a1
    have e2 := congrArg LgR.L a1
    simp only at e1 e2
    subst e1 e2
    have fk := fun m => fileOf_setF d.files p.name m ⟨(fileOf d.files p.name).bytes ++ frmB es, (fileOf d.files p.name).synced⟩
    refine ⟨a2, ?_, fun q hq => ?_⟩
    · simp only
      rw [hi.open_, fk, if_pos rfl]
      simp only [List.length_append]
      omega
    · simp only at hq ⊢
      rw [hdl] at hq
      have n3 : ¬ p.name = q.name := fun hc => hi.right.apart (by rw [hc]; exact List.mem_map.2 ⟨q, hq, rfl⟩)
      rw [fk, if_neg n3]
      exact hse q hq
end
/-! ### What compaction leaves of the files -/
theorem comp_files {d : Dsk} {L : Lg} {all : List Ev} (h : KInv (WholeU unpackB) d.files L all) (hl : lone L.l.dropLast = false) (h0 : (compD all L d).e = 0) :
    (compD all L d).L.l = [densePc (lastP L.l).first.toNat, lastP L.l] ∧ fileOf (compD all L d).d.files (dName (lastP L.l).first.toNat) = ⟨packB 0 (all.take (lastP L.l).first.toNat), (packB 0 (all.take (lastP L.l).first.toNat)).length⟩ ∧
    fileOf (compD all L d).d.files (lastP L.l).name = fileOf d.files (lastP L.l).name ∧ fileOf (compD all L d).d.files manifestS = ⟨manifestB [densePc (lastP L.l).first.toNat, lastP L.l], (manifestB [densePc (lastP L.l).first.toNat, lastP L.l]).length⟩ := by
  obtain ⟨A, p, old, fs, m, h⟩ := h
  have hlast := h.last
  have hdl : L.l.dropLast = A := by rw [h.l]; simp
  rw [hdl] at hl
  unfold compD at h0 ⊢
  rw [hlast, hdl] at h0 ⊢
  split at h0
  · simp at h0
  rename_i hov
  have hov : L.over = false := by simpa using hov
  rw [if_neg (by simp [hov])]
  rw [if_neg (by simp [hl])] at h0 ⊢
  split at h0
  · simp at h0
  rename_i hdn
  rw [if_neg hdn]
  have hfresh := h.fresh_name hl
  obtain ⟨f1, f2⟩ := fresh_files (d := d) (n := dName p.first.toNat) (b := packB 0 (all.take p.first.toNat)) h.nd
  generalize d.fresh (dName p.first.toNat) (packB 0 (all.take p.first.toNat)) = r1 at *
  split at h0
  · rename_i h1; exact absurd h0 h1
  rename_i h1
  rw [if_neg h1]
  have h1 : r1.2 = 0 := by
    rcases Decidable.em (r1.2 = 0) with h | h
    · exact h
    · exact absurd h h1
  have hfile := f2 h1
  unfold Lg.swap at h0 ⊢
  rw [hov, hlast] at h0 ⊢
  simp only [Bool.false_eq_true, if_false] at h0 ⊢
  have hl2 : [densePc p.first.toNat] ++ [p] = [densePc p.first.toNat, p] := rfl
  rw [hl2] at h0 ⊢
  obtain ⟨i1, i2, i3⟩ := install_files (d := r1.1) (l := [densePc p.first.toNat, p]) f1.1
  have hok2 := right_name h.right
  have hnm : ∀ q ∈ L.l, q.name ∉ [nextS, manifestS] := fun q hq => by
    have := okPiece_name (hok2 q (by rw [← h.l]; exact hq))
    simp [this.2.1, this.2.2]
  have hmn : manifestS ≠ dName p.first.toNat := fun hc => absurd (List.cons.inj hc).1 (by decide)
  have hnn : nextS ≠ dName p.first.toNat := fun hc => absurd (List.cons.inj hc).1 (by decide)
  have hdn : dName p.first.toNat ∉ [nextS, manifestS] := by simp [hmn.symm, hnn.symm]
  have hp : p ∈ L.l := by rw [h.l]; simp
  have hpn' : p.name ≠ dName p.first.toNat := hfresh p hp
  generalize r1.1.install [densePc p.first.toNat, p] = r2 at *
  by_cases hr : rightL [densePc p.first.toNat, p] = false
  · rw [if_pos hr] at h0; simp at h0
  rw [if_neg hr] at h0 ⊢
  by_cases h2 : r2.2 = 0
  case neg => rw [if_pos h2] at h0; simp only at h0; rw [if_pos h2] at h0; exact absurd h0 h2
  rw [if_neg (show ¬ r2.2 ≠ 0 by simp [h2])] at h0 ⊢
  simp only at h0 ⊢
  rw [if_neg (show ¬ (0 : Int) ≠ 0 by simp)] at h0 ⊢
  obtain ⟨i4, i5⟩ := i2 h2
  have hrm := rmEach_oth A r2.1 i1.1
  have hnotA : ∀ x ∈ A.map Pc.name, x ≠ manifestS ∧ x ≠ dName p.first.toNat ∧ x ≠ p.name := fun x hx => by
    obtain ⟨q, hq, rfl⟩ := List.mem_map.1 hx
    have hq' : q ∈ L.l := by rw [h.l]; simp [hq]
    exact ⟨(okPiece_name (hok2 q (by simp [hq]))).2.1, hfresh q hq', fun hc => h.right.apart (by rw [← hc]; exact hx)⟩
  generalize rmEach A r2.1 = r3 at *
  split at h0
  · rename_i h3; exact absurd h0 h3
  rename_i h3
  rw [if_neg h3]
  simp only
  refine ⟨trivial, ?_, ?_, ?_⟩
  · rw [hrm.2 _ fun hc => (hnotA _ hc).2.1 rfl, i1.2 _ (fun hc => hdn (by simpa using hc)), hfile]
  · rw [hrm.2 _ fun hc => (hnotA _ hc).2.2 rfl, i1.2 _ (fun hc => hnm p hp (by simpa using hc)), f1.2 _ hpn']
  · rw [hrm.2 _ fun hc => (hnotA _ hc).1 rfl, i5]
/-! ### The examples of chapter 07 -/
theorem add_fields {d d' : Dsk} {L L' : Lg} {es : List Ev} (h : L.add d es = ⟨d', L', 0⟩) : L'.n = L.n + es.length ∧ L'.size = L.size ∧
    ((((lastP L.l).first < L.n ∧ L.size ≤ L.bytes) ∧ L'.l = morePcs L ∧ L'.bytes = (headB L.n).length + (frmB es).length) ∨ (¬ ((lastP L.l).first < L.n ∧ L.size ≤ L.bytes) ∧ L'.l = L.l ∧ L'.bytes = L.bytes + (frmB es).length)) := by
  have hp : ∀ (M : Lg) (x : Dsk), M.put x es = ⟨d', L', 0⟩ → L'.n = M.n + es.length ∧ L'.l = M.l ∧ L'.size = M.size ∧ L'.bytes = M.bytes + (frmB es).length := fun M x hx => by
    unfold Lg.put at hx
    split at hx
    · rename_i h0
      have := congrArg LgR.e hx
      exact absurd this h0
    · have := congrArg LgR.L hx
      simp only at this
      subst this
      exact ⟨rfl, rfl, rfl, rfl⟩
  unfold Lg.add at h
  split at h
  · exact absurd (congrArg LgR.e h) (by simp)
  split at h
  · exact absurd (congrArg LgR.e h) (by simp)
  split at h
  · exact absurd (congrArg LgR.e h) (by simp)
  split at h
  · rename_i h0
    exact absurd (congrArg LgR.e h) h0
  rename_i h0
  obtain ⟨a1, a2, a3, a4⟩ := hp _ _ h
  have h0 : (L.roomed d).e = 0 := by
    rcases Decidable.em ((L.roomed d).e = 0) with h | h
    · exact h
    · exact absurd h h0
  unfold Lg.roomed at a1 a2 a3 a4 h0
  by_cases hc : (lastP L.l).first < L.n ∧ L.size ≤ L.bytes
  · rw [if_pos hc] at a1 a2 a3 a4 h0
    have hb : (L.another d).L = { L with acked := L.n, l := morePcs L, bytes := (headB L.n).length } := by
      unfold Lg.another at h0 ⊢
      split at h0
      · simp at h0
      rename_i c1
      rw [if_neg c1]
      split at h0
      · rename_i c2; exact absurd h0 c2
      rename_i c2
      rw [if_neg c2]
      split at h0
      · rename_i c3; exact absurd h0 c3
      rename_i c3
      rw [if_neg c3]
      split at h0
      · rename_i c4; exact absurd h0 c4
      rename_i c4
      rw [if_neg c4]
    rw [hb] at a1 a2 a3 a4
    exact ⟨a1, a3, .inl ⟨hc, a2, a4⟩⟩
  · rw [if_neg hc] at a1 a2 a3 a4
    exact ⟨a1, a3, .inr ⟨hc, a2, a4⟩⟩
def zs (n : Nat) : List Ev := List.replicate n Ev.zero
theorem putL_zs : ∀ n : Nat, (putL Ev.zero (zs n)).length = 5 * n
  | 0 => rfl
  | n + 1 => by
    have h := putL_zs n
    have e : (putE Ev.zero Ev.zero).length = 5 := by simp [putE, Ev.zero, w64_0, intB0]
    unfold zs at *
    rw [List.replicate_succ]
    simp only [putL, List.length_append]
    omega
theorem frm_zs {n : Nat} (h : n ≤ 25) : (frmB (zs n)).length = 5 * n + 6 := by
  have hb : (bodyB (zs n)).length = 1 + 5 * n := by
    simp only [bodyB, List.length_append, putL_zs]
    rw [show (zs n).length = n by simp [zs], uintB_small (by omega)]
    rfl
  simp only [frameB, sealB, List.length_append, sumB_len, hb]
  rw [uintB_small (by omega)]
  simp only [List.length_cons, List.length_nil]
  omega
theorem zs_len (n : Nat) : (zs n).length = n := by simp [zs]
theorem z_ok : Ev.zero.Ok := ⟨by unfold in64 Ev.zero; simp, by unfold in64 Ev.zero; simp, by unfold in64 Ev.zero; simp, by unfold in64 Ev.zero; simp⟩
theorem zs_ok (n : Nat) : ∀ e ∈ zs n, e.Ok := fun e he => by rw [List.eq_of_mem_replicate he]; exact z_ok
end Go.Proofs.YtjapijndljknnaaGreatDoor

/-
  The statements' choices and copies, walked: Pick, CopyBytes.
-/
namespace Go.Proofs.YtjapijndljknnaaGreatDoor
open Go Go.RowKit Go.Sort
set_option maxRecDepth 100000
set_option maxHeartbeats 1600000

end Go.Proofs.YtjapijndljknnaaGreatDoor

/-
  amanuensislaw06.built, walked: a disk with a log of few frames.
-/
namespace Go.Proofs.YtjapijndljknnaaGreatDoor
open Go Go.RowKit Go.Sort
set_option maxRecDepth 100000
set_option maxHeartbeats 1600000
section
variable {X : Nat → Prop} {w0 w1 w : World} {b : Nat} {d : Dsk}
end
end Go.Proofs.YtjapijndljknnaaGreatDoor
