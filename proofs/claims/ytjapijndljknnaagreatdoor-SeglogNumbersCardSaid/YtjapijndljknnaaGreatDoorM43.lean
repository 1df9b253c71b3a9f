/-
  Texts merged by a program of this claim's: Grown, Log7, CompTwo, RecUse2, StrayPlain.
-/
import Derived.Test.YtjapijndljknnaaGreatDoorM39
import Derived.Test.YtjapijndljknnaaGreatDoorM42
import Derived.Test.YtjapijndljknnaaGreatDoorM34
import Derived.Test.YtjapijndljknnaaGreatDoorM31
/-
  amanuensislaw07.grown, walked.
-/
namespace Go.Proofs.YtjapijndljknnaaGreatDoor
open Go Go.RowKit Go.Sort
set_option maxRecDepth 100000
set_option maxHeartbeats 1600000
end Go.Proofs.YtjapijndljknnaaGreatDoor

/-
  amanuensislaw07.logged, walked.
-/
namespace Go.Proofs.YtjapijndljknnaaGreatDoor
open Go Go.RowKit Go.Sort
set_option maxRecDepth 100000
set_option maxHeartbeats 1600000
structure S7 where
  l : List Pc
  n : Nat
  bytes : Nat
def S7.step (s : S7) (c : Nat) : S7 := if (lastP s.l).first < s.n ∧ (64 : Int) ≤ s.bytes then ⟨morePcs ⟨64, s.l, s.n, 0, 0, false⟩, s.n + c, 9 + (5 * c + 6)⟩ else ⟨s.l, s.n + c, s.bytes + (5 * c + 6)⟩
end Go.Proofs.YtjapijndljknnaaGreatDoor

/-
  Behind compaction on a calm disk: plain words (what the laws of chapter 07 ask).
-/
namespace Go.Proofs.YtjapijndljknnaaGreatDoor
open Go
set_option maxRecDepth 100000
section
variable {c : Nat} {d : Dsk} {L : Lg} {all es : List Ev}
/-- A frame goes in, where there is room. -/
theorem add_free (hc : Calm d) (hk : KInv (WholeU unpackB) d.files L all) (ho : L.over = false) (hl : L.l.length < 100) (hn : L.n ≤ 1000000) (hu : ((usedF d.files + 6227 + (frmB es).length : Nat) : Int) ≤ d.most) (hf : d.files.length < 190) (h1 : es.length ≠ 0) (h2 : es.length ≤ 4096) : (L.add d es).e = 0 := by
  obtain ⟨A, p, old, fs, m, h⟩ := hk
  have hlast := h.last
  have hb := right_bound h.right p (by simp)
  have hpn : p.name ∈ namesF d.files := mem_of_ne (by rw [h.open_]; unfold segB; exact fun hc => headB_ne _ (List.append_eq_nil_iff.1 hc).1)
  have hpo := (okPiece_name h.right.name).1
  have hput : ∀ (M : Lg) (x : Dsk), Calm x → okName (lastP M.l).name = true → ((usedF x.files + (frmB es).length : Nat) : Int) ≤ x.most → x.files.length < 200 → (M.put x es).e = 0 := fun M x c1 c2 c3 c4 => by
    unfold Lg.put
    rw [append_calm c1 c2 c3 (.inr c4), if_neg (by simp)]
  unfold Lg.add
  rw [ho, if_neg (by simp), if_neg h1, if_neg (by omega)]
  unfold Lg.roomed
  by_cases hst : (lastP L.l).first < L.n ∧ L.size ≤ L.bytes
  case neg =>
    rw [if_neg hst]
    simp only
    rw [if_neg (by simp)]
    exact hput L d hc (by rw [hlast]; exact hpo) (by omega) (by omega)
  rw [if_pos hst]
  rw [hlast] at hst
  -- the piece is sealed
  have s1 := sync_calm hc hpn
  have u1 := usedF_setF d.files p.name ⟨(fileOf d.files p.name).bytes, (fileOf d.files p.name).bytes.length⟩
  have l1 := length_setF d.files p.name ⟨(fileOf d.files p.name).bytes, (fileOf d.files p.name).bytes.length⟩
  rw [if_pos hpn] at l1
  have c1 := hc.setF p.name ⟨(fileOf d.files p.name).bytes, (fileOf d.files p.name).bytes.length⟩
  obtain ⟨F1, hF1⟩ : ∃ F, setF d.files p.name ⟨(fileOf d.files p.name).bytes, (fileOf d.files p.name).bytes.length⟩ = F := ⟨_, rfl⟩
  rw [hF1] at s1 u1 l1 c1
  simp only at u1
  have hhl := headB_len (n := L.n) (by omega)
  have s2 : ({ d with files := F1 } : Dsk).begun L.n = _ := fresh_calm (n := segName L.n) (b := headB L.n) c1 (okPiece_name (segName_ok (n := L.n) (by omega))).1 (by simp only; omega) (by simp only; omega)
  have c2 := c1.delF (segName L.n)
  have m2 := not_mem_delF c1.names (segName L.n)
  have u2 := usedF_delF F1 (segName L.n)
  have l2 := length_delF F1 (segName L.n)
  simp only at s2 c2 m2
  obtain ⟨F2, hF2⟩ : ∃ F, delF F1 (segName L.n) ++ [(segName L.n, (⟨headB L.n, (headB L.n).length⟩ : DFile))] = F := ⟨_, rfl⟩
  have u3 : usedF F2 = usedF (delF F1 (segName L.n)) + (headB L.n).length := by rw [← hF2]; simp [usedF]
  have l3 : F2.length = (delF F1 (segName L.n)).length + 1 := by rw [← hF2]; simp
  have c3 : Calm ({ d with files := F2 } : Dsk) := c1.same _ (by rw [← hF2, ← setF_miss m2]; exact nodup_setF c2.names _ _)
  rw [hF2] at s2
  have hml : morePcs L = (A ++ [{ p with count := L.n - p.first }]) ++ [⟨segName L.n, L.n, 0, false⟩] := by
    unfold morePcs
    rw [hlast, h.l, List.dropLast_concat]
    simp
  have hAl : A.length + 1 < 100 := by rw [h.l] at hl; simpa using hl
  have hr : rightL (morePcs L) = true := by
    rw [hml]
    refine (rightL_iff _ _).2 ⟨by simpa using hAl, (sealedFrom_snoc _ _ _ _).2 ⟨h.right.sealed_, h.right.name, by simp, h.right.apart, h.right.first, ?_, ?_⟩, segName_ok (by omega), ?_, ?_, rfl, rfl⟩
    · simp only; omega
    · simp only; omega
    · have := h.free L.n hst.1
      rw [h.l] at this
      simpa using this
    · rw [endOf_snoc, ← h.right.first]
      simp only; omega
  have hmb := manifestB_len hr
  have s3 := install_calm c3 hr (by simp only; omega) (by simp only; omega)
  have c4 := (c3.delF nextS).setF manifestS ⟨manifestB (morePcs L), (manifestB (morePcs L)).length⟩
  have u4 := usedF_delF F2 nextS
  have u5 := usedF_setF (delF F2 nextS) manifestS ⟨manifestB (morePcs L), (manifestB (morePcs L)).length⟩
  have l4 := length_delF F2 nextS
  have l5 := length_setF (delF F2 nextS) manifestS ⟨manifestB (morePcs L), (manifestB (morePcs L)).length⟩
  simp only at s3 c4 u5
  obtain ⟨F3, hF3⟩ : ∃ F, setF (delF F2 nextS) manifestS ⟨manifestB (morePcs L), (manifestB (morePcs L)).length⟩ = F := ⟨_, rfl⟩
  rw [hF3] at s3 c4 u5 l5
  have l6 : F3.length ≤ (delF F2 nextS).length + 1 := by rw [l5]; split <;> omega
  have ha : L.another d = ⟨{ d with files := F3 }, { L with acked := L.n, l := morePcs L, bytes := (headB L.n).length }, 0⟩ := by
    unfold Lg.another
    rw [hlast, if_neg (by omega), s1]
    simp only
    rw [if_neg (by simp), s2]
    simp only
    rw [if_neg (by simp), s3]
    simp
  rw [ha]
  simp only
  rw [if_neg (by simp)]
  refine hput _ _ c4 ?_ (by simp only; omega) (by simp only; omega)
  simp only
  rw [hml, lastP_snoc]
  exact (okPiece_name (segName_ok (n := L.n) (by omega))).1
structure Gc (c : Nat) (d : Dsk) (L : Lg) (all : List Ev) (d' : Dsk) (L' : Lg) (n : Nat) : Prop where
  calm : Calm d'
  most : d'.most = 1048576
  used : usedF d'.files ≤ 424957
  n_ : n + 1 = L.l.length
  len : L'.l.length = min L.l.length 2
  kin : KInv (WholeU unpackB) d'.files L' all
  again : compD all L' d' = ⟨d', L', 0, 0⟩
  names : (namesF d'.files).Perm (manifestS :: L'.l.map Pc.name)
  two : 2 ≤ L'.l.length → ∃ (k : Nat) (q : Pc), L'.l = [densePc k, q] ∧ q.first = k ∧ lastP L.l = q ∧ 1 ≤ k ∧ k ≤ 1200
  open_ : fileOf d'.files (lastP L.l).name = fileOf d.files (lastP L.l).name
  acked : L'.acked = L.acked
  n0 : L'.n = L.n
  bytes : L'.bytes = L.bytes
  size : L'.size = L.size
  over : L'.over = false
  last : lastP L'.l = lastP L.l
theorem Gc.add {d' : Dsk} {L' : Lg} {n : Nat} (h : Gc c d L all d' L' n) (hc : c ≤ 40) (hb : Bt 64 c d L all) (h1 : es.length ≠ 0) (h2 : es.length ≤ 30) : (L'.add d' es).e = 0 := by
  have hn := hb.ak.n
  have hl := h.len
  have hf := frm_le h2
  have hn0 := h.n0
  have hu := h.used
  have hm := h.most
  have hln := h.names.length_eq
  have hfl : d'.files.length = (namesF d'.files).length := by simp [namesF]
  simp only [List.length_cons, List.length_map] at hln
  exact add_free h.calm h.kin h.over (by omega) (by omega) (by omega) (by omega) h1 (by omega)
end
end Go.Proofs.YtjapijndljknnaaGreatDoor

/-
  A log's disk beside recovery, in plain words: what the laws of chapter 06 ask of sealed pieces, cuts, strays.
-/
namespace Go.Proofs.YtjapijndljknnaaGreatDoor
open Go
section
variable {d : Dsk} {l A : List Pc} {p : Pc} {old told all : List Ev} {fs : List (List Ev)} {t : List UInt8} {m sure c : Nat} {L : Lg} {F : List (Str × DFile)} {size : Int}
/-- What is told of a log's disk. -/
theorem Bt.scanned (h : Bt size c d L all) : (∃ gd, scanD U0 d = ⟨all, L.l, gd, 0⟩) ∧ DenFor U0 d ∧ ∃ A p old fs m, L.l = A ++ [p] ∧ TIn SegWh d.files L.l A p old fs [] m ∧ all = old ++ fs.flatten := by
  obtain ⟨A, p, old, fs, m, hk⟩ := h.kin
  have ht := hk.tin
  have hs := (ht.imp (Wh' := WholeU U0) fun _ _ _ h => h.whole).scan h.calm.up
  refine ⟨⟨((segB p.first.toNat fs).length : Int), by rw [hs, hk.all_]⟩, (ht.imp (Wh' := WholeU U0) fun _ _ _ h => h.whole).den0 h.calm.up, A, p, old, fs, m, hk.l, ht, hk.all_⟩
theorem Bt.sealed (h : Bt size c d L all) {k : Nat} (hk : k + 1 < L.l.length) : 0 < (fileOf d.files (L.l[k]'(by omega)).name).bytes.length ∧ ∀ j < (fileOf d.files (L.l[k]'(by omega)).name).bytes.length, ∃ d', d.cut (L.l[k]'(by omega)).name j = (d', 0) ∧ scanD U0 d' = ⟨[], [], 0, 14⟩ ∧ DenFor U0 d' ∧ mendD U0 d' = ⟨d', [], [], 14⟩ ∧ openD U0 d' 64 = ⟨d', newLg 64, [], 14⟩ := by
  obtain ⟨-, -, A, p, old, fs, m, hl, ht, -⟩ := h.scanned
  have hkA : k < A.length := by rw [hl] at hk; simp at hk; omega
  have hq : L.l[k]'(by omega) = A[k] := by
    have e : ∀ (l : List Pc) (hh : l = A ++ [p]) (hi : k < l.length), l[k] = A[k] := fun l hh hi => by subst hh; rw [List.getElem_append_left hkA]
    exact e L.l hl (by omega)
  rw [hq]
  have hqm : A[k] ∈ A := List.getElem_mem hkA
  obtain ⟨b, e, f1, fs', f2, rfl, -⟩ := sealedF_at ht.old_ _ hqm
  refine ⟨?_, fun j hj => ?_⟩
  · rw [f1]
    simp only
    have := headB_ne (A[k]).first.toNat
    have h2 := List.length_pos_iff.2 this
    simp only [segB, List.length_append]
    omega
  obtain ⟨d', c1, c2, c3⟩ := ht.spoilt (U := U0) h.calm hqm hj
  have hm : mendD U0 d' = ⟨d', [], [], 14⟩ := by
    unfold mendD mendWith
    rw [c3]
    rw [if_pos (by simp)]
  refine ⟨d', c1, c3, ?_, hm, ?_⟩
  · have hqn : ¬ (A[k]).name = manifestS := (okPiece_name (right_name ht.right _ (by simp [hqm]))).2.1
    have hman : fileOf d'.files manifestS = ⟨manifestB L.l, (manifestB L.l).length⟩ := by
      rcases cut_files (d := d) (n := (A[k]).name) (k := (j : Int)) with ⟨g1, g2⟩ | ⟨g1, g2⟩
      · rw [c1] at g2
        rw [g2, fileOf_setF, if_neg hqn]; exact ht.man
      · rw [c1] at g1; exact absurd rfl g1
    refine .inr ?_
    rw [read_of c2.up (congrArg DFile.bytes hman) (manifestB_ne _)]
    simp only
    rw [listedB_at ht.rightL, hl]
    intro q hq
    rcases List.mem_append.1 hq with hq | hq
    · obtain ⟨b, e, -, hw⟩ := sealedF_at (ht.imp (Wh' := WholeU U0) fun _ _ _ h => h.whole).old_ q hq
      exact whole0 hw
    · rw [List.mem_singleton] at hq; subst hq; exact ht.right.dense
  · unfold openD
    rw [if_neg (by omega), hm, if_pos (by simp)]
end
end Go.Proofs.YtjapijndljknnaaGreatDoor

/-
  Files of other names beside a log's, in plain words.
-/
namespace Go.Proofs.YtjapijndljknnaaGreatDoor
open Go
/-- Beside the files of the one disk, which are as they were, there may be others. -/
structure Stray (d0 d : Dsk) : Prop where
  calm : Calm d
  files : ∀ x ∈ namesF d0.files, x ∈ namesF d.files ∧ fileOf d.files x = fileOf d0.files x
section
variable {d0 d : Dsk} {all : List Ev} {c : Nat} {L : Lg} {size : Int} {n : Str} {b : List UInt8}
theorem Stray.refl (h : Calm d) : Stray d d := ⟨h, fun x hx => ⟨hx, rfl⟩⟩
theorem Stray.append (h : Stray d0 d) (hn : n ∉ namesF d0.files) : Stray d0 (d.append n b).1 := by
  unfold Dsk.append
  by_cases hm : d.mayAppend n b = 0
  · rw [hm, op_calm h.calm]
    refine ⟨h.calm.setF _ _, fun x hx => ?_⟩
    have hne : ¬ n = x := fun e => hn (e ▸ hx)
    simp only
    refine ⟨?_, by rw [fileOf_setF, if_neg hne]; exact (h.files x hx).2⟩
    rw [nmF_setF]
    split
    · exact (h.files x hx).1
    · exact List.mem_append_left _ (h.files x hx).1
  · rw [op_calm_no h.calm hm]
    exact h
theorem list_perm {d d' : Dsk} (h : (namesF d.files).Perm (namesF d'.files)) : d.list = d'.list := Go.mergeSort_of_perm h
theorem Bt.strays (h : Bt size c d0 L all) (hs : Stray d0 d) : (∃ gd, scanD U0 d = ⟨all, L.l, gd, 0⟩) ∧ DenFor U0 d ∧ ∃ d2 ps, mendD U0 d = ⟨d2, all, ps, 0⟩ ∧ d2.list = d0.list := by
  obtain ⟨-, -, A, p, old, fs, m, hl, ht, hall⟩ := h.scanned
  obtain ⟨A', p', hi, -⟩ := h.ak.inv
  have hnm : ∀ x, x ∈ staysOf L.l ↔ x ∈ namesF d0.files := fun x => (hi.names.mem_iff).symm
  have ht2 : TIn SegWh d.files L.l A p old fs [] m := ht.files hs.calm.names fun x hx => (hs.files x ((hnm x).1 hx)).2
  have hw := ht2.imp (Wh' := WholeU U0) fun _ _ _ h => h.whole
  have hsc := hw.scan hs.calm.up
  rw [← hall] at hsc
  refine ⟨⟨_, hsc⟩, hw.den0 hs.calm.up, ?_⟩
  obtain ⟨F, f1, f2, f3⟩ := mendWith_calm hs.calm (r := scanD U0 d) (k := (segB p.first.toNat fs).length) (by rw [hsc]) (by rw [hsc]) (by
    rw [hsc]
    simp only
    obtain ⟨s, s1, -⟩ := ht2.open_
    rw [hl, lastP_snoc, s1]
    simp)
  rw [hsc] at f1 f3
  refine ⟨_, _, (show mendD U0 d = mendWith d (scanD U0 d) from rfl).trans (by rw [hsc]; exact f1), list_perm ?_⟩
  simp only
  refine (List.perm_ext_iff_of_nodup f2 h.calm.names).2 fun x => ?_
  rw [f3 x]
  simp only
  rw [hnm x]
  exact ⟨fun h => h.2, fun h => ⟨(hs.files x h).1, h⟩⟩
end
end Go.Proofs.YtjapijndljknnaaGreatDoor
