/-
  Texts merged by a program of this claim's: Law6C, VecG, CompKeepL, CKPlain, CKeepsR, CompactKeepsP.
-/
import Derived.Test.YtjapijndljknnaaGreatDoorM28
import Derived.Test.YtjapijndljknnaaGreatDoorM22
import Derived.Test.YtjapijndljknnaaGreatDoorM2
import Derived.Test.YtjapijndljknnaaGreatDoorM44
import Derived.Test.YtjapijndljknnaaGreatDoorM48
import Derived.Test.YtjapijndljknnaaGreatDoorM36
import Derived.Test.YtjapijndljknnaaGreatDoorM42
import Derived.Test.YtjapijndljknnaaGreatDoorM35
import Derived.Test.YtjapijndljknnaaGreatDoorM15
/-
  amanuensislow.CopyEvents, walked.
-/
namespace Go.Proofs.YtjapijndljknnaaGreatDoor
open Go Go.RowKit Go.Sort
set_option maxRecDepth 100000
set_option maxHeartbeats 1600000
end Go.Proofs.YtjapijndljknnaaGreatDoor

/-
  Program-independent: an append behind a guard that lets it in.
-/
namespace Go.Proofs.YtjapijndljknnaaGreatDoor
open Go Go.RowKit
section
variable {k n : Nat} {w w' : World} {v : Value} {cs : List Value}
end
end Go.Proofs.YtjapijndljknnaaGreatDoor

/-
  What compaction leaves, with the pieces named; a frame that goes in on a calm disk. Plain words.
-/
namespace Go.Proofs.YtjapijndljknnaaGreatDoor
open Go
set_option maxRecDepth 100000
/-- What compaction leaves, with the pieces named. -/
theorem comp_keepsL {Wh : Pc → List UInt8 → List Ev → Prop} (hi : ∀ q b es, Wh q b es → WholeU unpackB q b es) (hde : ∀ (k : Nat) (old : List Ev), k = old.length → 1 ≤ k → k ≤ 100000 → (∀ e ∈ old, e.Ok) → Wh (densePc k) (packB 0 old) old) {d : Dsk} {L : Lg} {all : List Ev} (h : KInv Wh d.files L all) (hok : ∀ e ∈ all, e.Ok) (hall : all.length ≤ 100000) :
    (∃ l', (l' = L.l ∨ l'.length = 2) ∧ RtL Wh (compD all L d).d.files l' all L.acked) ∧ ((compD all L d).e = 0 → RtL Wh (compD all L d).d.files (compD all L d).L.l all L.acked ∧ (compD all L d).L.l.length ≤ max 2 L.l.length ∧ (lone L.l.dropLast = false ∨ compD all L d = ⟨d, L, 0, 0⟩) ∧ KInv Wh (compD all L d).d.files (compD all L d).L all) := by
  have hk := h
  obtain ⟨A, p, old, fs, m, h⟩ := h
  have hkU : KIn (WholeU unpackB) d.files L all A p old fs m := ⟨h.nd, h.l, h.right, h.man, sealedF_imp hi h.old_, h.open_, h.m_, h.fr, h.first, h.all_, h.n, h.acked, h.free, h.pname⟩
  have hb := right_bound h.right p (by simp)
  have hfi := h.first
  have hpn : p.first.toNat = old.length := by omega
  have hto : all.take p.first.toNat = old := by rw [h.all_, hpn, List.take_left]
  have hlast := h.last
  have hdl : L.l.dropLast = A := by rw [h.l]; simp
  unfold compD
  rw [hlast, hdl, hto]
  split
  · exact ⟨⟨_, .inl rfl, hk.rtl⟩, fun h => absurd h (by simp)⟩
  rename_i hov
  have hov : L.over = false := by simpa using hov
  split
  · rename_i hl
    exact ⟨⟨_, .inl rfl, hk.rtl⟩, fun _ => ⟨hk.rtl, Nat.le_max_right _ _, .inr rfl, hk⟩⟩
  rename_i hl
  have hl : lone A = false := by simpa using hl
  split
  · exact ⟨⟨_, .inl rfl, hk.rtl⟩, fun h => absurd h (by simp)⟩
  have hfresh := hkU.fresh_name hl
  obtain ⟨f1, f2⟩ := fresh_files (d := d) (n := dName p.first.toNat) (b := packB 0 old) h.nd
  have hmn : manifestS ≠ dName p.first.toNat := fun hc => absurd (List.cons.inj hc).1 (by decide)
  have hnn : nextS ≠ dName p.first.toNat := fun hc => absurd (List.cons.inj hc).1 (by decide)
  have K1 : KIn Wh (d.fresh (dName p.first.toNat) (packB 0 old)).1.files L all A p old fs m := h.files f1.1 fun x hx => f1.2 x (by
    rcases hx with rfl | ⟨q, hq, rfl⟩
    · exact hmn
    · exact hfresh q hq)
  generalize d.fresh (dName p.first.toNat) (packB 0 old) = r1 at *
  split
  · exact ⟨⟨_, .inl rfl, KInv.rtl ⟨_, _, _, _, _, K1⟩⟩, fun h => by rename_i h0; exact absurd h h0⟩
  rename_i h0
  have h0 : r1.2 = 0 := by
    rcases Decidable.em (r1.2 = 0) with h | h
    · exact h
    · exact absurd h h0
  have hfile := f2 h0
  have hold1 : 1 ≤ old.length := by
    have := sealed_pos h.right.sealed_
    rcases this with rfl | hh
    · simp [lone] at hl
    · rw [← h.right.first] at hh; omega
  have hold2 : p.first.toNat ≤ 100000 := by have := h.all_; rw [this, List.length_append] at hall; omega
  have hold1' : 1 ≤ p.first.toNat := by omega
  unfold Lg.swap
  rw [hov, hlast]
  simp only [Bool.false_eq_true, if_false]
  have hl2 : [densePc p.first.toNat] ++ [p] = [densePc p.first.toNat, p] := rfl
  obtain ⟨i1, i2, i3⟩ := install_files (d := r1.1) (l := [densePc p.first.toNat, p]) K1.nd
  have hok2 := right_name h.right
  have K2o : ∀ x, x ∉ [nextS, manifestS] → fileOf (r1.1.install [densePc p.first.toNat, p]).1.files x = fileOf r1.1.files x := fun x hx => i1.2 x (by simpa using hx)
  have hnm : ∀ q ∈ L.l, q.name ∉ [nextS, manifestS] := fun q hq => by
    have := okPiece_name (hok2 q (by rw [← h.l]; exact hq))
    simp [this.2.1, this.2.2]
  generalize hgen : r1.1.install [densePc p.first.toNat, p] = r2 at *
  have hgen' : r1.1.install ([densePc p.first.toNat] ++ [p]) = r2 := hgen
  rw [hgen']
  by_cases hr : rightL ([densePc p.first.toNat] ++ [p]) = false
  · rw [if_pos hr]
    simp only
    rw [if_pos (by decide)]
    exact ⟨⟨_, .inl rfl, KInv.rtl ⟨_, _, _, _, _, K1⟩⟩, fun h => by simp at h⟩
  rw [if_neg hr]
  by_cases h2 : r2.2 = 0
  case neg =>
    rw [if_pos h2]
    simp only
    rw [if_pos h2]
    have K2 : KIn Wh r2.1.files L all A p old fs m := K1.files i1.1 fun x hx => by
      rcases hx with rfl | ⟨q, hq, rfl⟩
      · exact i3 h2
      · exact K2o _ (hnm q hq)
    exact ⟨⟨_, .inl rfl, KInv.rtl ⟨_, _, _, _, _, K2⟩⟩, fun h => absurd h h2⟩
  rw [if_neg (show ¬ r2.2 ≠ 0 by simp [h2])]
  simp only
  rw [if_neg (show ¬ (0 : Int) ≠ 0 by simp)]
  obtain ⟨i4, i5⟩ := i2 h2
  have hR : RightP [densePc p.first.toNat] p := (rightL_iff _ _).1 i4
  have hdn : dName p.first.toNat ∉ [nextS, manifestS] := by simp [hmn.symm, hnn.symm]
  have hpn' : p.name ≠ dName p.first.toNat := hfresh p (by rw [h.l]; simp)
  have K3 : KIn Wh r2.1.files { L with l := [densePc p.first.toNat] ++ [p] } all [densePc p.first.toNat] p old fs m := by
    refine ⟨i1.1, rfl, hR, i5, ?_, ?_, h.m_, h.fr, h.first, h.all_, h.n, h.acked, fun k hk hm => ?_, h.pname⟩
    · refine ⟨packB 0 old, old, [], ?_, hde _ old hpn hold1' hold2 (fun e he => hok e (by rw [h.all_]; simp [he])), by simp, rfl⟩
      show fileOf r2.1.files (dName p.first.toNat) = _
      rw [K2o _ hdn, hfile]
    · rw [K2o _ (hnm p (by rw [h.l]; simp))]; exact K1.open_
    · simp only [List.map_append, List.map_cons, List.map_nil, List.mem_append, List.mem_singleton] at hm
      rcases hm with hm | hm
      · exact dName_seg _ _ hm.symm
      · rw [h.pname] at hm
        have := segName_inj hm
        omega
  have hrm := rmEach_oth A r2.1 K3.nd
  have hnotA : ∀ x ∈ A.map Pc.name, x ≠ manifestS ∧ x ≠ dName p.first.toNat ∧ x ≠ p.name := fun x hx => by
    obtain ⟨q, hq, rfl⟩ := List.mem_map.1 hx
    have hq' : q ∈ L.l := by rw [h.l]; simp [hq]
    exact ⟨(okPiece_name (hok2 q (by simp [hq]))).2.1, hfresh q hq', fun hc => h.right.apart (by rw [← hc]; exact hx)⟩
  have K4 : KIn Wh (rmEach A r2.1).1.files { L with l := [densePc p.first.toNat] ++ [p] } all [densePc p.first.toNat] p old fs m := K3.files hrm.1 fun x hx => hrm.2 x fun hc => by
    obtain ⟨n1, n2, n3⟩ := hnotA x hc
    rcases hx with rfl | ⟨q, hq, rfl⟩
    · exact n1 rfl
    · simp only [List.mem_append, List.mem_singleton] at hq
      rcases hq with rfl | rfl
      · exact n2 rfl
      · exact n3 rfl
  generalize rmEach A r2.1 = r3 at *
  have hR4 : RtL Wh r3.1.files ([densePc p.first.toNat] ++ [p]) all L.acked := KInv.rtl (L := { L with l := [densePc p.first.toNat] ++ [p] }) ⟨_, _, _, _, _, K4⟩
  split
  · rename_i h3
    exact ⟨⟨_, .inr rfl, hR4⟩, fun h => absurd h h3⟩
  · exact ⟨⟨_, .inr rfl, hR4⟩, fun _ => ⟨hR4, Nat.le_max_left _ _, .inl hl, _, _, _, _, _, K4.lg rfl rfl rfl⟩⟩
theorem wb_dense (k : Nat) (old : List Ev) (hk : k = old.length) (h1 : 1 ≤ k) (h2 : k ≤ 100000) (hok : ∀ e ∈ old, e.Ok) : WB (densePc k) (packB 0 old) old := by
  have hup := unpack_at (n := 0) (by omega) (l := old) (by omega) (by omega) hok
  have hl := packB_len (l := old) (by omega)
  refine ⟨⟨?_, ?_, ?_, ?_⟩, by omega⟩
  · show segR unpackB true (packB 0 old) = _
    unfold segR
    rw [hup]
    rfl
  · show ((k : Nat) : Int) = _
    omega
  · unfold packB sealB packIn denseS; simp
  · exact ⟨fun h => by simp [densePc] at h, fun _ => ⟨rfl, by show dName _ = dName ((k : Nat) : Int).toNat; rw [Int.toNat_natCast]⟩⟩
/-- A frame goes in, where there is room. -/
theorem add_freeL {Wh : Pc → List UInt8 → List Ev → Prop} {d : Dsk} {L : Lg} {all es : List Ev} (hc : Calm d) (hk : KInv Wh d.files L all) (ho : L.over = false) (hl : L.l.length < 100) (hn : L.n ≤ 1000000) (hu : ((usedF d.files + 6227 + (frmB es).length : Nat) : Int) ≤ d.most) (hf : d.files.length < 190) (h1 : es.length ≠ 0) (h2 : es.length ≤ 4096) : (L.add d es).e = 0 ∧ Calm (L.add d es).d ∧ (L.add d es).d.most = d.most ∧ (L.add d es).L.over = false ∧ (L.add d es).L.l.length ≤ L.l.length + 1 ∧ ((∀ x, x ∈ namesF d.files → x ∈ staysOf L.l) → ∀ x, x ∈ namesF (L.add d es).d.files → x ∈ staysOf (L.add d es).L.l) := by
  obtain ⟨A, p, old, fs, m, h⟩ := hk
  have hlast := h.last
  have hb := right_bound h.right p (by simp)
  have hpn : p.name ∈ namesF d.files := mem_of_ne (by rw [h.open_]; unfold segB; exact fun hc => headB_ne _ (List.append_eq_nil_iff.1 hc).1)
  have hpo := (okPiece_name h.right.name).1
  have hput : ∀ (M : Lg) (x : Dsk), Calm x → okName (lastP M.l).name = true → ((usedF x.files + (frmB es).length : Nat) : Int) ≤ x.most → x.files.length < 200 → M.over = false → (lastP M.l).name ∈ namesF x.files →
      (M.put x es).e = 0 ∧ Calm (M.put x es).d ∧ (M.put x es).d.most = x.most ∧ (M.put x es).L.over = false ∧ (M.put x es).L.l = M.l ∧ ∀ y, y ∈ namesF (M.put x es).d.files → y ∈ namesF x.files := fun M x c1 c2 c3 c4 c5 c6 => by
    unfold Lg.put
    rw [append_calm c1 c2 c3 (.inr c4), if_neg (by simp)]
    exact ⟨rfl, c1.setF _ _, rfl, c5, rfl, fun y hy => by simp only at hy; rw [nmF_setF, if_pos c6] at hy; exact hy⟩
  unfold Lg.add
  rw [ho, if_neg (by simp), if_neg h1, if_neg (by omega)]
  unfold Lg.roomed
  by_cases hst : (lastP L.l).first < L.n ∧ L.size ≤ L.bytes
  case neg =>
    rw [if_neg hst]
    simp only
    rw [if_neg (by simp)]
    obtain ⟨a1, a2, a3, a4, a5, a6⟩ := hput L d hc (by rw [hlast]; exact hpo) (by omega) (by omega) ho (by rw [hlast]; exact hpn)
    exact ⟨a1, a2, a3, a4, by rw [a5]; omega, fun hs y hy => by rw [a5]; exact hs y (a6 y hy)⟩
  rw [if_pos hst]
  rw [hlast] at hst
  -- the piece is sealed
  have s1 := sync_calm hc hpn
  have u1 := usedF_setF d.files p.name ⟨(fileOf d.files p.name).bytes, (fileOf d.files p.name).bytes.length⟩
  have l1 := length_setF d.files p.name ⟨(fileOf d.files p.name).bytes, (fileOf d.files p.name).bytes.length⟩
  rw [if_pos hpn] at l1
  have c1 := hc.setF p.name ⟨(fileOf d.files p.name).bytes, (fileOf d.files p.name).bytes.length⟩
  obtain ⟨F1, hF1⟩ : ∃ F, setF d.files p.name ⟨(fileOf d.files p.name).bytes, (fileOf d.files p.name).bytes.length⟩ = F := ⟨_, rfl⟩
  rw [hF1] at s1 u1 l1 c1
  simp only at u1
  have hhl := headB_len (n := L.n) (by omega)
  have s2 : ({ d with files := F1 } : Dsk).begun L.n = _ := fresh_calm (n := segName L.n) (b := headB L.n) c1 (okPiece_name (segName_ok (n := L.n) (by omega))).1 (by simp only; omega) (by simp only; omega)
  have c2 := c1.delF (segName L.n)
  have m2 := not_mem_delF c1.names (segName L.n)
  have u2 := usedF_delF F1 (segName L.n)
  have l2 := length_delF F1 (segName L.n)
  simp only at s2 c2 m2
  obtain ⟨F2, hF2⟩ : ∃ F, delF F1 (segName L.n) ++ [(segName L.n, (⟨headB L.n, (headB L.n).length⟩ : DFile))] = F := ⟨_, rfl⟩
  have u3 : usedF F2 = usedF (delF F1 (segName L.n)) + (headB L.n).length := by rw [← hF2]; simp [usedF]
  have l3 : F2.length = (delF F1 (segName L.n)).length + 1 := by rw [← hF2]; simp
  have c3 : Calm ({ d with files := F2 } : Dsk) := c1.same _ (by rw [← hF2, ← setF_miss m2]; exact nodup_setF c2.names _ _)
  rw [hF2] at s2
  have hml : morePcs L = (A ++ [{ p with count := L.n - p.first }]) ++ [⟨segName L.n, L.n, 0, false⟩] := by
    unfold morePcs
    rw [hlast, h.l, List.dropLast_concat]
    simp
  have hAl : A.length + 1 < 100 := by rw [h.l] at hl; simpa using hl
  have hr : rightL (morePcs L) = true := by
    rw [hml]
    refine (rightL_iff _ _).2 ⟨by simpa using hAl, (sealedFrom_snoc _ _ _ _).2 ⟨h.right.sealed_, h.right.name, by simp, h.right.apart, h.right.first, ?_, ?_⟩, segName_ok (by omega), ?_, ?_, rfl, rfl⟩
    · simp only; omega
    · simp only; omega
    · have := h.free L.n hst.1
      rw [h.l] at this
      simpa using this
    · rw [endOf_snoc, ← h.right.first]
      simp only; omega
  have hmb := manifestB_len hr
  have s3 := install_calm c3 hr (by simp only; omega) (by simp only; omega)
  have c4 := (c3.delF nextS).setF manifestS ⟨manifestB (morePcs L), (manifestB (morePcs L)).length⟩
  have u4 := usedF_delF F2 nextS
  have u5 := usedF_setF (delF F2 nextS) manifestS ⟨manifestB (morePcs L), (manifestB (morePcs L)).length⟩
  have l4 := length_delF F2 nextS
  have l5 := length_setF (delF F2 nextS) manifestS ⟨manifestB (morePcs L), (manifestB (morePcs L)).length⟩
  simp only at s3 c4 u5
  obtain ⟨F3, hF3⟩ : ∃ F, setF (delF F2 nextS) manifestS ⟨manifestB (morePcs L), (manifestB (morePcs L)).length⟩ = F := ⟨_, rfl⟩
  rw [hF3] at s3 c4 u5 l5
  have l6 : F3.length ≤ (delF F2 nextS).length + 1 := by rw [l5]; split <;> omega
  have ha : L.another d = ⟨{ d with files := F3 }, { L with acked := L.n, l := morePcs L, bytes := (headB L.n).length }, 0⟩ := by
    unfold Lg.another
    rw [hlast, if_neg (by omega), s1]
    simp only
    rw [if_neg (by simp), s2]
    simp only
    rw [if_neg (by simp), s3]
    simp
  rw [ha]
  simp only
  rw [if_neg (by simp)]
  have hsg : segName L.n ∈ namesF F3 := by
    rw [← hF3, nmF_setF]
    have h2 : segName L.n ∈ namesF (delF F2 nextS) := by
      rw [namesF_delF]
      refine (List.mem_erase_of_ne fun hc => absurd (List.cons.inj hc).1 (by decide)).2 ?_
      rw [← hF2]
      show segName L.n ∈ namesF _
      unfold namesF
      rw [List.map_append, List.mem_append]
      exact .inr (List.mem_singleton.2 rfl)
    split
    · exact h2
    · simp [h2]
  obtain ⟨a1, a2, a3, a4, a5, a6⟩ := hput { L with acked := L.n, l := morePcs L, bytes := (headB L.n).length } { d with files := F3 } c4 (by
    simp only
    rw [hml, lastP_snoc]
    exact (okPiece_name (segName_ok (n := L.n) (by omega))).1) (by simp only; omega) (by simp only; omega) ho (by simp only; rw [hml, lastP_snoc]; exact hsg)
  refine ⟨a1, a2, a3, a4, ?_, fun hs y hy => ?_⟩
  · rw [a5]
    simp only
    rw [hml, h.l]
    simp
  · rw [a5]
    simp only
    have hy := a6 y hy
    simp only at hy
    rw [← hF3, nmF_setF] at hy
    have hy : y = manifestS ∨ y ∈ namesF (delF F2 nextS) := by
      split at hy
      · exact .inr hy
      · simp only [List.mem_append, List.mem_singleton] at hy
        exact hy.symm
    have hst : ∀ z, z ∈ staysOf L.l → z ∈ staysOf (morePcs L) := fun z hz => by
      rw [h.l] at hz
      rw [hml]
      simp only [staysOf, List.map_append, List.map_cons, List.map_nil, List.mem_cons, List.mem_append, List.mem_nil_iff, or_false] at hz ⊢
      rcases hz with hz | hz | hz
      · exact .inl hz
      · exact .inr (.inl (.inl hz))
      · exact .inr (.inl (.inr hz))
    rcases hy with rfl | hy
    · simp [staysOf]
    rw [namesF_delF] at hy
    have hy := List.mem_of_mem_erase hy
    rw [← hF2] at hy
    simp only [namesF, List.map_append, List.map_cons, List.map_nil, List.mem_append, List.mem_singleton] at hy
    rcases hy with hy | rfl
    · have hy : y ∈ namesF (delF F1 (segName L.n)) := hy
      rw [namesF_delF] at hy
      have hy := List.mem_of_mem_erase hy
      rw [← hF1, nmF_setF, if_pos hpn] at hy
      exact hst y (hs y hy)
    · rw [hml]
      simp [staysOf]
end Go.Proofs.YtjapijndljknnaaGreatDoor

/-
  A log that is compacted now and then, with failures, and opened anew: plain words for CompactKeeps.
-/
namespace Go.Proofs.YtjapijndljknnaaGreatDoor
open Go
set_option maxRecDepth 100000
structure Ci (c : Nat) (z : Int) (d : Dsk) (L : Lg) (all : List Ev) : Prop where
  calm : Calm d
  most : d.most = 1048576
  kin : KInv WB d.files L all
  names : ∀ x, x ∈ namesF d.files → x ∈ staysOf L.l
  over : L.over = false
  pcs : L.l.length ≤ c + 2
  len : all.length ≤ 30 * c
  rk : Rk z c L
  ok : ∀ e ∈ all, e.Ok
theorem Ci.new {z : Int} (h1 : 64 ≤ z) (h2 : z ≤ 16777216) : ∃ d, createD (newDsk 1048576) z = (d, 0) ∧ Ci 0 z d (newLg z) [] := by
  obtain ⟨F, k1, k2, k3, k4⟩ := create_calm' 1048576 (by omega) h1 h2
  have hb : (headB 0).length ≤ 18 := headB_len (n := 0) (by omega)
  exact ⟨_, k1, k2.calm, rfl, KInv.new 1048576 (by omega) h1 h2 k1, fun x hx => by simpa [staysOf] using k2.names.mem_iff.1 hx, rfl, by simp [newLg], by simp, ⟨by simp only [newLg]; omega, rfl⟩, fun e he => by cases he⟩
section
variable {c : Nat} {z : Int} {d d2 : Dsk} {L : Lg} {all es : List Ev}
theorem Ci.add (h : Ci c z d L all) (hc : c < 40) (h1 : es.length ≠ 0) (h2 : es.length ≤ 30) (h3 : ∀ e ∈ es, e.Ok) : (L.add d es).e = 0 ∧ Ci (c + 1) z (L.add d es).d (L.add d es).L (all ++ es) := by
  have hn := h.kin.facts.1
  have hl := h.len
  have hp := h.pcs
  have hu := h.kin.used h.names (by omega)
  have hct := h.kin.count h.names
  have hf := frm_le h2
  have hm := h.most
  obtain ⟨a1, a2, a3, a4, a5, a6⟩ := add_freeL h.calm h.kin h.over (by omega) (by omega) (by omega) (by omega) h1 (es := es) (by omega)
  have hk := h.kin.add (d := d) (es := es) seals_wb h3
  rw [a1, if_pos rfl] at hk
  refine ⟨a1, a2, a3.trans hm, hk, a6 h.names, a4, by omega, by rw [List.length_append]; omega, h.rk.add (by omega) h2, fun e he => ?_⟩
  rcases List.mem_append.1 he with he | he
  · exact h.ok e he
  · exact h3 e he
theorem Ci.sync (h : Ci c z d L all) : (L.sync d).e = 0 ∧ Ci c z (L.sync d).d (L.sync d).L all := by
  have hk := (h.kin.sync (d := d)).1
  have hr := h.rk.sync (d := d)
  have hm := sync_most L d
  have hp : (lastP L.l).name ∈ namesF d.files := by
    obtain ⟨A, p, old, fs, m, k⟩ := h.kin
    rw [k.last]
    exact mem_of_ne (by rw [k.open_]; unfold segB; exact fun hc => headB_ne _ (List.append_eq_nil_iff.1 hc).1)
  have hs := sync_calm h.calm hp
  have e : L.sync d = ⟨{ d with files := setF d.files (lastP L.l).name ⟨(fileOf d.files (lastP L.l).name).bytes, (fileOf d.files (lastP L.l).name).bytes.length⟩ }, { L with acked := L.n }, 0⟩ := by
    unfold Lg.sync
    rw [h.over, if_neg (by simp), hs, if_neg (by simp)]
  rw [e] at hk hr hm ⊢
  refine ⟨rfl, h.calm.setF _ _, hm.trans h.most, hk, fun x hx => ?_, h.over, h.pcs, h.len, hr, h.ok⟩
  simp only at hx
  rw [nmF_setF, if_pos hp] at hx
  exact h.names x hx
theorem rmEach_most : ∀ (A : List Pc) (d : Dsk), (rmEach A d).1.most = d.most
  | [], d => rfl
  | q :: A, d => by
    unfold rmEach
    split
    · exact op_most _ _ _
    · exact (rmEach_most A _).trans (op_most _ _ _)
theorem swap_most (L : Lg) (d : Dsk) (ps : List Pc) : (L.swap d ps).d.most = d.most := by
  unfold Lg.swap
  repeat' split
  all_goals first | rfl | exact install_most _ _
theorem comp_most (all : List Ev) (L : Lg) (d : Dsk) : (compD all L d).d.most = d.most := by
  unfold compD
  repeat' split
  all_goals first | rfl | exact fresh_most _ _ _ | exact (swap_most _ _ _).trans (fresh_most _ _ _) | exact (rmEach_most _ _).trans ((swap_most _ _ _).trans (fresh_most _ _ _))
theorem lone_len {A : List Pc} (h : lone A = true) : A.length ≤ 1 := by
  match A, h with
  | [], _ => simp
  | [_], _ => simp
  | _ :: _ :: _, h => simp [lone] at h
/-- Compaction, whatever arm the disk has. -/
theorem Ci.comp (h : Ci c z d L all) (hc : c ≤ 40) (hf : d2.files = d.files) (hm : d2.most = d.most) :
    (∃ l', l'.length ≤ c + 2 ∧ RtL WB (compD all L d2).d.files l' all L.acked) ∧ (compD all L d2).d.most = 1048576 ∧ ((compD all L d2).e = 0 → (compD all L d2).L.l.length ≤ 2 ∧ ((compD all L d2).d.down = false → ∃ g, scanD unpackB (compD all L d2).d = ⟨all, (compD all L d2).L.l, g, 0⟩)) := by
  have hk : KInv WB d2.files L all := by rw [hf]; exact h.kin
  have hl := h.len
  have hp := h.pcs
  obtain ⟨⟨l', k1, k2⟩, k3⟩ := comp_keepsL (d := d2) wb_whole wb_dense hk h.ok (by omega)
  obtain ⟨-, k4⟩ := comp_keeps (d := d2) (hk.imp wb_whole) h.ok (by omega)
  refine ⟨⟨l', ?_, k2⟩, (comp_most _ _ _).trans (hm.trans h.most), fun h0 => ⟨?_, fun hd => (k3 h0).1.scan wb_whole hd⟩⟩
  · rcases k1 with rfl | k1
    · exact hp
    · omega
  · obtain ⟨-, -, -, -, -, k5, -⟩ := k4 h0
    have := lone_len k5
    rw [List.length_dropLast] at this
    omega
end
end Go.Proofs.YtjapijndljknnaaGreatDoor

/-
  amanuensislaw07.CompactKeeps: append(CopyEvents(all), frames[i]...): a region that draws its order. Printed by wip/gen_ckr.py.
-/
namespace Go.Proofs.YtjapijndljknnaaGreatDoor.CompactKeeps
open Go Go.RowKit Go.Sort
set_option maxRecDepth 100000
set_option maxHeartbeats 3200000
end Go.Proofs.YtjapijndljknnaaGreatDoor.CompactKeeps

/-
  amanuensislaw07.CompactKeeps: pieces of it. Printed by wip/gen_ck.py.
-/
namespace Go.Proofs.YtjapijndljknnaaGreatDoor.CompactKeeps
open Go Go.RowKit Go.Sort
set_option maxRecDepth 100000
set_option maxHeartbeats 3200000

end Go.Proofs.YtjapijndljknnaaGreatDoor.CompactKeeps
