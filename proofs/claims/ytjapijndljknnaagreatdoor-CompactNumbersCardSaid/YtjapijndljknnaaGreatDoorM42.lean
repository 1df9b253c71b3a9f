/-
  Texts merged by a program of this claim's: Less7, Picks, Law6B.
-/
import Derived.Test.YtjapijndljknnaaGreatDoorM40
import Derived.Test.YtjapijndljknnaaGreatDoorM28
import Derived.Lib.ItoaNum
import Derived.Test.YtjapijndljknnaaGreatDoorM2
import Derived.Test.YtjapijndljknnaaGreatDoorM9
import Derived.Test.YtjapijndljknnaaGreatDoorM39
import Derived.Test.YtjapijndljknnaaGreatDoorM31
import Derived.Test.YtjapijndljknnaaGreatDoorM37
/-
  Events that are all alike take less room behind compaction: plain words. The examples of chapter 07 in plain words.
-/
namespace Go.Proofs.YtjapijndljknnaaGreatDoor
open Go
set_option maxRecDepth 100000
/-! ### How much room files take -/
theorem usedF_names : ∀ {F : List (Str × DFile)}, (namesF F).Nodup → usedF F = ((namesF F).map fun x => (fileOf F x).bytes.length).sum
  | [], _ => rfl
  | (n, f) :: F, h => by
    have h' := List.nodup_cons.1 (show (n :: namesF F).Nodup from h)
    have e : (namesF F).map (fun x => (fileOf ((n, f) :: F) x).bytes.length) = (namesF F).map fun x => (fileOf F x).bytes.length := by
      refine List.map_congr_left fun x hx => ?_
      rw [fileOf_cons, if_neg fun hc => h'.1 (by rw [hc]; exact hx)]
    rw [usedF_cons, usedF_names h'.2]
    show _ = ((n :: namesF F).map fun x => (fileOf ((n, f) :: F) x).bytes.length).sum
    rw [List.map_cons, List.sum_cons, e, fileOf_cons, if_pos rfl]
theorem usedF_perm {F : List (Str × DFile)} (h : (namesF F).Nodup) {l : List Str} (hp : (namesF F).Perm l) : usedF F = (l.map fun x => (fileOf F x).bytes.length).sum := by
  rw [usedF_names h]
  exact (hp.map _).sum_nat
theorem sum_ge (f : Str → Nat) (m : Nat) : ∀ l : List Str, (∀ x ∈ l, m ≤ f x) → m * l.length ≤ (l.map f).sum
  | [], _ => by simp
  | x :: l, h => by
    have h1 := h x (by simp)
    have h2 := sum_ge f m l fun y hy => h y (by simp [hy])
    rw [List.map_cons, List.sum_cons, List.length_cons, Nat.mul_add]
    omega
/-! ### Columns of one number -/
theorem headRun_rep (x : Int) : ∀ m : Nat, headRun x (List.replicate m x) = m
  | 0 => rfl
  | m + 1 => by rw [List.replicate_succ]; unfold headRun; rw [if_pos rfl, headRun_rep x m]
theorem deltas_rep {x : Int} : ∀ m : Nat, deltas x (List.replicate m x) = List.replicate m 0
  | 0 => rfl
  | m + 1 => by
    rw [List.replicate_succ, List.replicate_succ]
    unfold deltas
    rw [deltas_rep m, show x - x = 0 by omega, w64_0]
theorem runsOf_rep (f m : Nat) (hf : 1 ≤ f) (x : Int) : runsOf f (List.replicate (m + 1) x) = [(x, m + 1)] := by
  obtain ⟨g, rfl⟩ : ∃ g, f = g + 1 := ⟨f - 1, by omega⟩
  rw [List.replicate_succ]
  unfold runsOf
  rw [headRun_rep]
  have : (List.replicate m x).drop m = [] := by simp
  rw [this]
  cases g <;> rfl
theorem colB_rep {k : Nat} (h1 : 1 ≤ k) (h2 : k ≤ 1200) (x : Int) : (colB (List.replicate k x)).length ≤ 14 := by
  obtain ⟨m, rfl⟩ : ∃ m, k = m + 1 := ⟨k - 1, by omega⟩
  have hu : ∀ n : Nat, n ≤ 1200 → (uintB n).length ≤ 2 := fun n hn => uintB_len n 2 (by omega) (by omega)
  have hi := intB_len (w64_in (x - 0))
  have h0 : (intB 0).length = 1 := by rw [intB0]; rfl
  unfold colB
  rw [List.length_replicate, List.replicate_succ]
  unfold deltas
  rw [deltas_rep]
  generalize hy : w64 (x - 0) = y at hi ⊢
  by_cases hz : y = 0
  · subst hz
    rw [← List.replicate_succ, runsOf_rep _ _ (by omega)]
    simp only [List.flatMap_cons, List.flatMap_nil, runB, List.length_append, List.length_nil, h0]
    have := hu (m + 1) h2
    omega
  · unfold runsOf
    cases m with
    | zero =>
      simp only [List.replicate_zero, headRun, List.drop_nil]
      rw [show runsOf 0 ([] : List Int) = [] by rfl]
      simp only [List.flatMap_cons, List.flatMap_nil, runB, List.length_append, List.length_nil]
      have := hu (0 + 1) (by omega)
      omega
    | succ m =>
      have e : headRun y (List.replicate (m + 1) 0) = 0 := by
        rw [List.replicate_succ]; unfold headRun; rw [if_neg (fun hc => hz hc.symm)]
      rw [e, List.drop_zero, runsOf_rep _ _ (by omega)]
      simp only [List.flatMap_cons, List.flatMap_nil, runB, List.length_append, List.length_nil, h0]
      have := hu (m + 1) (by omega)
      have : (uintB (0 + 1)).length = 1 := by rw [uintB_small (by omega)]; rfl
      omega
theorem packB_rep {k : Nat} (h1 : 1 ≤ k) (h2 : k ≤ 1200) (e : Ev) : (packB 0 (List.replicate k e)).length ≤ 81 := by
  have hu : (uintB k).length ≤ 2 := uintB_len k 2 (by omega) (by omega)
  have hz : (uintB 0).length = 1 := by rw [uintB_small (by omega)]; rfl
  have hc := fun f : Ev → Int => colB_rep h1 h2 (f e)
  have c1 := hc Ev.thread
  have c2 := hc fun e => (e.op.toNat : Int)
  have c3 := hc Ev.obj
  have c4 := hc Ev.a
  have c5 := hc Ev.b
  have : denseS.length = 4 := rfl
  simp only [packB, sealB, packIn, picks, List.flatMap_cons, List.flatMap_nil, List.length_append, List.length_nil, List.map_replicate, List.length_replicate, sumB_len]
  omega
/-! ### A log whose sealed pieces have their size -/
structure Lz (c : Nat) (d : Dsk) (L : Lg) : Prop where
  ak : Ak 64 c d L
  file : (fileOf d.files (lastP L.l).name).bytes.length = L.bytes
  sealed_ : ∀ q ∈ L.l.dropLast, 64 ≤ (fileOf d.files q.name).bytes.length
theorem Lz.new : ∃ d, createD (newDsk 1048576) 64 = (d, 0) ∧ Lz 0 d (newLg 64) := by
  obtain ⟨F, h1, h2, h3, h4⟩ := create_calm' 1048576 (by omega) (size := 64) (by omega) (by omega)
  have hb : (headB 0).length ≤ 18 := headB_len (n := 0) (by omega)
  exact ⟨_, h1, ⟨⟨⟨_, _, h2, by simp⟩, rfl, by simpa using h3, by simp [newLg], by simpa [newLg] using hb, rfl⟩, by simp only [h4]; simp [fileOf, getF, newLg, lastP], fun q hq => by simp [newLg] at hq⟩⟩
section
variable {c : Nat} {d : Dsk} {L : Lg} {es : List Ev}
theorem Lz.add (h : Lz c d L) (hc : c < 60) (h1 : es.length ≠ 0) (h2 : es.length ≤ 30) : ∃ d' L', L.add d es = ⟨d', L', 0⟩ ∧ Lz (c + 1) d' L' := by
  obtain ⟨d1, L1, a1, a2, -⟩ := h.ak.add hc h1 h2
  refine ⟨d1, L1, a1, ?_⟩
  obtain ⟨⟨⟨A, p, hi, hA⟩, hm, hu, hn, hb, hsz⟩, hfl, hse⟩ := h
  rw [hi.open_] at hfl
  have ha0 := hi.acked0
  have ha1 := hi.acked1
  have hf := frm_le h2
  have hdl : L.l.dropLast = A := by rw [hi.l]; simp
  rw [hdl] at hse
  by_cases hst : p.first < L.n ∧ L.size ≤ L.bytes
  · obtain ⟨F, b1, b2, b3, b4⟩ := another_calm hi (by omega) hst.1 (by omega) (by rw [hm]; omega)
    obtain ⟨p1, p2, p3⟩ := put_calm b2 es (by simp only; rw [hm]; omega)
    have e := add_more hi h1 (by omega) hst (by rw [b1])
    rw [b1] at e
    rw [e.trans p1] at a1
    have hne : segName L.n ≠ p.name := fun hc => hi.no_seg hst.1 (hc ▸ hi.mem)
    have hpm : ¬ p.name = manifestS := (okPiece_name hi.right.name).2.1
    have hsm : ¬ segName L.n = manifestS := (okPiece_name (segName_ok (n := L.n) (by omega))).2.1
    have e1 := congrArg LgR.d a1
    have e2 := congrArg LgR.L a1
    simp only at e1 e2
    subst e1 e2
    have hmore := morePcs_eq hi
    have hlast : lastP (morePcs L) = ⟨segName L.n, L.n, 0, false⟩ := by rw [hmore, lastP_snoc]
    have hdl2 : (morePcs L).dropLast = A ++ [{ p with count := L.n - p.first }] := by rw [hmore]; simp
    have f0 := b4 (segName L.n)
    rw [if_neg hsm, if_pos rfl] at f0
    have fk := fun m => fileOf_setF F (segName L.n) m ⟨(fileOf F (segName L.n)).bytes ++ frmB es, (fileOf F (segName L.n)).synced⟩
    refine ⟨a2, ?_, fun q hq => ?_⟩
    · simp only
      rw [hlast]
      simp only
      rw [fk, if_pos rfl, f0]
      simp
    · simp only at hq ⊢
      rw [hdl2, List.mem_append, List.mem_singleton] at hq
      rcases hq with hq | rfl
      · have hq' : q ∈ L.l := by rw [hi.l]; simp [hq]
        have n1 : segName L.n ≠ q.name := fun hc => hi.no_seg hst.1 (by rw [hc, hi.names.mem_iff]; simp only [List.mem_cons]; exact .inr (List.mem_map.2 ⟨q, hq', rfl⟩))
        have n2 : ¬ q.name = manifestS := (okPiece_name (right_name hi.right q (by simp [hq]))).2.1
        have n3 : ¬ q.name = p.name := fun hc => hi.right.apart (by rw [← hc]; exact List.mem_map.2 ⟨q, hq, rfl⟩)
        rw [fk, if_neg n1, b4, if_neg n2, if_neg (Ne.symm n1), if_neg n3]
        exact hse q hq
      · simp only
        rw [fk, if_neg hne, b4, if_neg hpm, if_neg (Ne.symm hne), if_pos rfl]
        have := hst.2
        simp only
        omega
  · obtain ⟨p1, p2, p3⟩ := put_calm hi es (by rw [hm]; omega)
    rw [(add_stay hi h1 (by omega) hst).trans p1] at a1
    have e1 := congrArg LgR.d a1
    have e2 := congrArg LgR.L a1
    simp only at e1 e2
    subst e1 e2
    have fk := fun m => fileOf_setF d.files p.name m ⟨(fileOf d.files p.name).bytes ++ frmB es, (fileOf d.files p.name).synced⟩
    refine ⟨a2, ?_, fun q hq => ?_⟩
    · simp only
      rw [hi.open_, fk, if_pos rfl]
      simp only [List.length_append]
      omega
    · simp only at hq ⊢
      rw [hdl] at hq
      have n3 : ¬ p.name = q.name := fun hc => hi.right.apart (by rw [hc]; exact List.mem_map.2 ⟨q, hq, rfl⟩)
      rw [fk, if_neg n3]
      exact hse q hq
end
/-! ### What compaction leaves of the files -/
theorem comp_files {d : Dsk} {L : Lg} {all : List Ev} (h : KInv (WholeU unpackB) d.files L all) (hl : lone L.l.dropLast = false) (h0 : (compD all L d).e = 0) :
    (compD all L d).L.l = [densePc (lastP L.l).first.toNat, lastP L.l] ∧ fileOf (compD all L d).d.files (dName (lastP L.l).first.toNat) = ⟨packB 0 (all.take (lastP L.l).first.toNat), (packB 0 (all.take (lastP L.l).first.toNat)).length⟩ ∧
    fileOf (compD all L d).d.files (lastP L.l).name = fileOf d.files (lastP L.l).name ∧ fileOf (compD all L d).d.files manifestS = ⟨manifestB [densePc (lastP L.l).first.toNat, lastP L.l], (manifestB [densePc (lastP L.l).first.toNat, lastP L.l]).length⟩ := by
  obtain ⟨A, p, old, fs, m, h⟩ := h
  have hlast := h.last
  have hdl : L.l.dropLast = A := by rw [h.l]; simp
  rw [hdl] at hl
  unfold compD at h0 ⊢
  rw [hlast, hdl] at h0 ⊢
  split at h0
  · simp at h0
  rename_i hov
  have hov : L.over = false := by simpa using hov
  rw [if_neg (by simp [hov])]
  rw [if_neg (by simp [hl])] at h0 ⊢
  split at h0
  · simp at h0
  rename_i hdn
  rw [if_neg hdn]
  have hfresh := h.fresh_name hl
  obtain ⟨f1, f2⟩ := fresh_files (d := d) (n := dName p.first.toNat) (b := packB 0 (all.take p.first.toNat)) h.nd
  generalize d.fresh (dName p.first.toNat) (packB 0 (all.take p.first.toNat)) = r1 at *
  split at h0
  · rename_i h1; exact absurd h0 h1
  rename_i h1
  rw [if_neg h1]
  have h1 : r1.2 = 0 := by
    rcases Decidable.em (r1.2 = 0) with h | h
    · exact h
    · exact absurd h h1
  have hfile := f2 h1
  unfold Lg.swap at h0 ⊢
  rw [hov, hlast] at h0 ⊢
  simp only [Bool.false_eq_true, if_false] at h0 ⊢
  have hl2 : [densePc p.first.toNat] ++ [p] = [densePc p.first.toNat, p] := rfl
  rw [hl2] at h0 ⊢
  obtain ⟨i1, i2, i3⟩ := install_files (d := r1.1) (l := [densePc p.first.toNat, p]) f1.1
  have hok2 := right_name h.right
  have hnm : ∀ q ∈ L.l, q.name ∉ [nextS, manifestS] := fun q hq => by
    have := okPiece_name (hok2 q (by rw [← h.l]; exact hq))
    simp [this.2.1, this.2.2]
  have hmn : manifestS ≠ dName p.first.toNat := fun hc => absurd (List.cons.inj hc).1 (by decide)
  have hnn : nextS ≠ dName p.first.toNat := fun hc => absurd (List.cons.inj hc).1 (by decide)
  have hdn : dName p.first.toNat ∉ [nextS, manifestS] := by simp [hmn.symm, hnn.symm]
  have hp : p ∈ L.l := by rw [h.l]; simp
  have hpn' : p.name ≠ dName p.first.toNat := hfresh p hp
  generalize r1.1.install [densePc p.first.toNat, p] = r2 at *
  by_cases hr : rightL [densePc p.first.toNat, p] = false
  · rw [if_pos hr] at h0; simp at h0
  rw [if_neg hr] at h0 ⊢
  by_cases h2 : r2.2 = 0
  case neg => rw [if_pos h2] at h0; simp only at h0; rw [if_pos h2] at h0; exact absurd h0 h2
  rw [if_neg (show ¬ r2.2 ≠ 0 by simp [h2])] at h0 ⊢
  simp only at h0 ⊢
  rw [if_neg (show ¬ (0 : Int) ≠ 0 by simp)] at h0 ⊢
  obtain ⟨i4, i5⟩ := i2 h2
  have hrm := rmEach_oth A r2.1 i1.1
  have hnotA : ∀ x ∈ A.map Pc.name, x ≠ manifestS ∧ x ≠ dName p.first.toNat ∧ x ≠ p.name := fun x hx => by
    obtain ⟨q, hq, rfl⟩ := List.mem_map.1 hx
    have hq' : q ∈ L.l := by rw [h.l]; simp [hq]
    exact ⟨(okPiece_name (hok2 q (by simp [hq]))).2.1, hfresh q hq', fun hc => h.right.apart (by rw [← hc]; exact hx)⟩
  generalize rmEach A r2.1 = r3 at *
  split at h0
  · rename_i h3; exact absurd h0 h3
  rename_i h3
  rw [if_neg h3]
  simp only
  refine ⟨trivial, ?_, ?_, ?_⟩
  · rw [hrm.2 _ fun hc => (hnotA _ hc).2.1 rfl, i1.2 _ (fun hc => hdn (by simpa using hc)), hfile]
  · rw [hrm.2 _ fun hc => (hnotA _ hc).2.2 rfl, i1.2 _ (fun hc => hnm p hp (by simpa using hc)), f1.2 _ hpn']
  · rw [hrm.2 _ fun hc => (hnotA _ hc).1 rfl, i5]
theorem nDig4 {k : Nat} (h : k ≤ 1200) : Lib.nDigits k ≤ 4 := by
  by_cases h1 : k < 10
  · rw [Lib.nDigits_small h1]; omega
  rw [Lib.nDigits_big h1]
  by_cases h2 : k / 10 < 10
  · rw [Lib.nDigits_small h2]; omega
  rw [Lib.nDigits_big h2]
  by_cases h3 : k / 10 / 10 < 10
  · rw [Lib.nDigits_small h3]; omega
  rw [Lib.nDigits_big h3, Lib.nDigits_small (by omega)]
  omega
theorem pieceB_pos (p : Pc) : 4 ≤ (pieceB p).length := by
  have h1 := uintB_pos p.name.length
  have h2 := uintB_pos p.first.toNat
  have h3 := uintB_pos p.count.toNat
  simp only [pieceB, blobB, List.length_append, List.length_cons, List.length_nil]
  omega
theorem flat_ge : ∀ l : List Pc, 4 * l.length ≤ (l.flatMap pieceB).length
  | [] => by simp
  | p :: l => by
    have h1 := pieceB_pos p
    have h2 := flat_ge l
    rw [List.flatMap_cons, List.length_append, List.length_cons]
    omega
/-- Two sealed pieces or more, all alike: less room. -/
theorem comp_less {c : Nat} {d : Dsk} {L : Lg} {all : List Ev} {e : Ev} (h : Lz c d L) (hb : Bt 64 c d L all) (hk : KInv (WholeU unpackB) d.files L all) (hc : c ≤ 40) (ha : ∀ x ∈ all, x = e) (h2 : 2 ≤ L.l.dropLast.length) : usedF (compD all L d).d.files < usedF d.files := by
  have hl : lone L.l.dropLast = false := by
    cases hA : L.l.dropLast with
    | nil => rw [hA] at h2; simp at h2
    | cons x A => cases A with
      | nil => rw [hA] at h2; simp at h2
      | cons y A => rfl
  obtain ⟨F, hF, n1, n2⟩ := comp_calm hb hc hl
  have he : (compD all L d).e = 0 := by rw [hF]
  obtain ⟨-, q1, q2, q3⟩ := comp_files hk hl he
  obtain ⟨A, p, hi, hAc⟩ := h.ak.inv
  have hmost := h.ak.most
  have hn := h.ak.n
  have hlast := hi.open_
  have hdl : L.l.dropLast = A := by rw [hi.l]; simp
  have hbd := right_bound hi.right p (by simp)
  have hpk := hi.acked0
  have hpn := hi.acked1
  have hse := h.sealed_
  rw [hdl] at h2 hl hse
  rw [hlast] at q1 q2 q3 n2
  have hall : L.n = all.length := by obtain ⟨_, _, _, _, _, kk⟩ := hk; exact kk.n
  obtain ⟨k, hkk⟩ : ∃ k, p.first.toNat = k := ⟨_, rfl⟩
  have hk2 : k ≤ 1200 := by omega
  have hk1 : 1 ≤ k := by
    rcases sealed_pos hi.right.sealed_ with rfl | hh
    · simp at h2
    · rw [← hi.right.first] at hh; omega
  rw [hkk] at q1 q3 n2
  have htake : all.take k = List.replicate k e := by
    refine List.eq_replicate_iff.2 ⟨by rw [List.length_take]; omega, fun x hx => ha x (List.mem_of_mem_take hx)⟩
  rw [htake] at q1
  have hpb := packB_rep hk1 hk2 e
  rw [hF] at q1 q2 q3 ⊢
  simp only at q1 q2 q3 ⊢
  have hdk : dName k ≠ manifestS := fun hc => absurd (List.cons.inj hc).1 (by decide)
  have hpd : p.name ≠ dName k := by rw [hi.seg p (by rw [hi.l]; simp)]; exact fun e => dName_seg _ _ e.symm
  have hpm : p.name ≠ manifestS := (okPiece_name hi.right.name).2.1
  have hperm : (namesF F).Perm [manifestS, dName k, p.name] := by
    refine (List.perm_ext_iff_of_nodup n1 ?_).2 fun x => ?_
    · simp [hdk.symm, hpm.symm, hpd.symm]
    · rw [n2 x]; simp
  have u1 := usedF_perm n1 hperm
  have u0 := usedF_perm hi.calm.names hi.names
  rw [hi.l] at u0
  simp only [List.map_cons, List.map_nil, List.sum_cons, List.sum_nil, q1, q2, q3] at u1
  simp only [List.map_cons, List.map_append, List.map_nil, List.sum_cons, List.sum_append, List.sum_nil, hi.man] at u0
  have hs := sum_ge (fun x => (fileOf d.files x).bytes.length) 64 (A.map Pc.name) fun x hx => by
    obtain ⟨q, hq, rfl⟩ := List.mem_map.1 hx
    exact hse q hq
  rw [List.length_map] at hs
  have hfA := flat_ge A
  have hds : (pieceB (densePc k)).length ≤ 10 := by
    have h1 := uintB_len k 2 (by omega) (by omega)
    have h3 := Lib.decDigits_length k
    have h4 : Lib.nDigits k ≤ 4 := nDig4 (by omega)
    have h5 : (uintB (dName k).length).length = 1 := by rw [uintB_small (by simp only [dName, List.length_cons]; omega)]; rfl
    have h6 : (uintB 0).length = 1 := by rw [uintB_small (by omega)]; rfl
    simp only [pieceB, blobB, List.length_append, List.length_cons, List.length_nil, densePc, Int.toNat_natCast, h5]
    simp only [dName, List.length_cons]
    rw [show (0 : Int).toNat = 0 from rfl]
    omega
  have hm0 : (manifestB L.l).length = 8 + (uintB L.l.length).length + ((A.flatMap pieceB).length + (pieceB p).length) := by
    rw [hi.l]
    simp only [manifestB, manifestIn, sealB, List.length_append, List.length_cons, List.length_nil, sumB_len, List.flatMap_append, List.flatMap_cons, List.flatMap_nil]
    omega
  have hm1 : (manifestB [densePc k, p]).length = 8 + 1 + ((pieceB (densePc k)).length + (pieceB p).length) := by
    simp only [manifestB, manifestIn, sealB, List.length_append, List.length_cons, List.length_nil, sumB_len, List.flatMap_cons, List.flatMap_nil]
    rw [uintB_small (by omega)]
    simp only [List.length_cons, List.length_nil]
    omega
  have hup := uintB_pos L.l.length
  omega
/-! ### The examples of chapter 07 -/
theorem add_fields {d d' : Dsk} {L L' : Lg} {es : List Ev} (h : L.add d es = ⟨d', L', 0⟩) : L'.n = L.n + es.length ∧ L'.size = L.size ∧
    ((((lastP L.l).first < L.n ∧ L.size ≤ L.bytes) ∧ L'.l = morePcs L ∧ L'.bytes = (headB L.n).length + (frmB es).length) ∨ (¬ ((lastP L.l).first < L.n ∧ L.size ≤ L.bytes) ∧ L'.l = L.l ∧ L'.bytes = L.bytes + (frmB es).length)) := by
  have hp : ∀ (M : Lg) (x : Dsk), M.put x es = ⟨d', L', 0⟩ → L'.n = M.n + es.length ∧ L'.l = M.l ∧ L'.size = M.size ∧ L'.bytes = M.bytes + (frmB es).length := fun M x hx => by
    unfold Lg.put at hx
    split at hx
    · rename_i h0
      have := congrArg LgR.e hx
      exact absurd this h0
    · have := congrArg LgR.L hx
      simp only at this
      subst this
      exact ⟨rfl, rfl, rfl, rfl⟩
  unfold Lg.add at h
  split at h
  · exact absurd (congrArg LgR.e h) (by simp)
  split at h
  · exact absurd (congrArg LgR.e h) (by simp)
  split at h
  · exact absurd (congrArg LgR.e h) (by simp)
  split at h
  · rename_i h0
    exact absurd (congrArg LgR.e h) h0
  rename_i h0
  obtain ⟨a1, a2, a3, a4⟩ := hp _ _ h
  have h0 : (L.roomed d).e = 0 := by
    rcases Decidable.em ((L.roomed d).e = 0) with h | h
    · exact h
    · exact absurd h h0
  unfold Lg.roomed at a1 a2 a3 a4 h0
  by_cases hc : (lastP L.l).first < L.n ∧ L.size ≤ L.bytes
  · rw [if_pos hc] at a1 a2 a3 a4 h0
    have hb : (L.another d).L = { L with acked := L.n, l := morePcs L, bytes := (headB L.n).length } := by
      unfold Lg.another at h0 ⊢
      split at h0
      · simp at h0
      rename_i c1
      rw [if_neg c1]
      split at h0
      · rename_i c2; exact absurd h0 c2
      rename_i c2
      rw [if_neg c2]
      split at h0
      · rename_i c3; exact absurd h0 c3
      rename_i c3
      rw [if_neg c3]
      split at h0
      · rename_i c4; exact absurd h0 c4
      rename_i c4
      rw [if_neg c4]
    rw [hb] at a1 a2 a3 a4
    exact ⟨a1, a3, .inl ⟨hc, a2, a4⟩⟩
  · rw [if_neg hc] at a1 a2 a3 a4
    exact ⟨a1, a3, .inr ⟨hc, a2, a4⟩⟩
def zs (n : Nat) : List Ev := List.replicate n Ev.zero
theorem putL_zs : ∀ n : Nat, (putL Ev.zero (zs n)).length = 5 * n
  | 0 => rfl
  | n + 1 => by
    have h := putL_zs n
    have e : (putE Ev.zero Ev.zero).length = 5 := by simp [putE, Ev.zero, w64_0, intB0]
    unfold zs at *
    rw [List.replicate_succ]
    simp only [putL, List.length_append]
    omega
theorem frm_zs {n : Nat} (h : n ≤ 25) : (frmB (zs n)).length = 5 * n + 6 := by
  have hb : (bodyB (zs n)).length = 1 + 5 * n := by
    simp only [bodyB, List.length_append, putL_zs]
    rw [show (zs n).length = n by simp [zs], uintB_small (by omega)]
    rfl
  simp only [frameB, sealB, List.length_append, sumB_len, hb]
  rw [uintB_small (by omega)]
  simp only [List.length_cons, List.length_nil]
  omega
theorem zs_len (n : Nat) : (zs n).length = n := by simp [zs]
theorem z_ok : Ev.zero.Ok := ⟨by unfold in64 Ev.zero; simp, by unfold in64 Ev.zero; simp, by unfold in64 Ev.zero; simp, by unfold in64 Ev.zero; simp⟩
theorem zs_ok (n : Nat) : ∀ e ∈ zs n, e.Ok := fun e he => by rw [List.eq_of_mem_replicate he]; exact z_ok
theorem head_len {n : Nat} (h : n < 128) : (headB n).length = 9 := by
  simp only [headB, sealB, List.length_append, sumB_len, uintB_small h]
  rfl
end Go.Proofs.YtjapijndljknnaaGreatDoor

/-
  The statements' choices and copies, walked: Pick, CopyBytes.
-/
namespace Go.Proofs.YtjapijndljknnaaGreatDoor
open Go Go.RowKit Go.Sort
set_option maxRecDepth 100000
set_option maxHeartbeats 1600000

theorem tmod_pick (x n : Int) (hn : 0 < n) : -n < x.tmod n ∧ x.tmod n < n ∧ (x.tmod n + n).tmod n = x % n := by
  have h0 := Int.emod_nonneg x (by omega : n ≠ 0)
  have h1 := Int.emod_lt_of_pos x hn
  have e : x.tmod n = x % n ∨ (x.tmod n = x % n - n ∧ x % n ≠ 0) := by
    rw [Int.tmod_eq_emod]
    by_cases hc : 0 ≤ x ∨ n ∣ x
    · rw [if_pos hc]; left; simp
    · rw [if_neg hc]; right
      refine ⟨by omega, fun h => hc (.inr (Int.dvd_of_emod_eq_zero h))⟩
  have key : ∀ y : Int, y = x % n ∨ y = x % n - n → (y + n).tmod n = x % n := by
    rintro y (rfl | rfl)
    · rw [Int.tmod_eq_emod_of_nonneg (by omega), Int.add_emod_right, Int.emod_emod]
    · rw [show x % n - n + n = x % n by omega, Int.tmod_eq_emod_of_nonneg h0, Int.emod_emod]
  refine ⟨?_, ?_, key _ (e.imp id (fun h => h.1))⟩
  · rcases e with e | ⟨e, h⟩ <;> omega
  · rcases e with e | ⟨e, h⟩ <;> omega
theorem Pick_ok (x n : Int) (w : World) (h2 : 2 ≤ n) (hn : n ≤ 1000000007) :
    Calls Tryz.prog 45 #[.int .i64 x, .int .i64 n] w fun e w' => e = .returned (.int .i64 (x % n)) ∧ w = w' := by
  obtain ⟨k1, k2, k3⟩ := tmod_pick x n (by omega)
  have hz0 := Int.emod_nonneg x (by omega : n ≠ 0)
  have hz1 := Int.emod_lt_of_pos x (by omega : 0 < n)
  obtain ⟨y, hy⟩ : ∃ y, x.tmod n = y := ⟨_, rfl⟩
  obtain ⟨z, hz⟩ : ∃ z, x % n = z := ⟨_, rfl⟩
  rw [hy] at k1 k2 k3
  rw [hz] at k3 hz0 hz1 ⊢
  clear hz
  go_enter Tryz.func45, Tryz.ntmps45
  go_wp2
  go_ret
  exact ⟨rfl, rfl⟩

end Go.Proofs.YtjapijndljknnaaGreatDoor

/-
  amanuensislaw06.built, walked: a disk with a log of few frames.
-/
namespace Go.Proofs.YtjapijndljknnaaGreatDoor
open Go Go.RowKit Go.Sort
set_option maxRecDepth 100000
set_option maxHeartbeats 1600000
section
variable {X : Nat → Prop} {w0 w1 w : World} {b : Nat} {d : Dsk}
end
theorem frames_nw {w w' : World} {v : Value} {fs : List (List Ev)} (h : RdK 1 (isEvs w) w v fs) (hw : Nw w w') : RdK 1 (isEvs w') w' v fs := by
  rcases h.nw hw with h | ⟨g, o, cap, rfl, h1, h2, hg, h3⟩
  · exact .inl h
  · refine .inr ⟨g, o, cap, rfl, h1, h2, hg, fun i hi => ?_⟩
    obtain ⟨cs, hk, hc, u, hu, he⟩ := h3 i hi
    exact ⟨cs, hk, hc, u, hu, he.nw hw⟩
end Go.Proofs.YtjapijndljknnaaGreatDoor
