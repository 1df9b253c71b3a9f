/-
  Texts merged by a program of this claim's: StrayPlain.
-/
import Derived.Test.YtphgiobklbpdeaaGreatDoorM40
/-
  Files of other names beside a log's, in plain words.
-/
namespace Go.Proofs.YtphgiobklbpdeaaGreatDoor
open Go
/-- Beside the files of the one disk, which are as they were, there may be others. -/
structure Stray (d0 d : Dsk) : Prop where
  calm : Calm d
  files : ∀ x ∈ namesF d0.files, x ∈ namesF d.files ∧ fileOf d.files x = fileOf d0.files x
section
variable {d0 d : Dsk} {all : List Ev} {c : Nat} {L : Lg} {size : Int} {n : Str} {b : List UInt8}
theorem Stray.refl (h : Calm d) : Stray d d := ⟨h, fun x hx => ⟨hx, rfl⟩⟩
theorem Stray.append (h : Stray d0 d) (hn : n ∉ namesF d0.files) : Stray d0 (d.append n b).1 := by
  unfold Dsk.append
  by_cases hm : d.mayAppend n b = 0
  · rw [hm, op_calm h.calm]
    refine ⟨h.calm.setF _ _, fun x hx => ?_⟩
    have hne : ¬ n = x := fun e => hn (e ▸ hx)
    simp only
    refine ⟨?_, by rw [fileOf_setF, if_neg hne]; exact (h.files x hx).2⟩
    rw [nmF_setF]
    split
    · exact (h.files x hx).1
    · exact List.mem_append_left _ (h.files x hx).1
  · rw [op_calm_no h.calm hm]
    exact h
theorem list_perm {d d' : Dsk} (h : (namesF d.files).Perm (namesF d'.files)) : d.list = d'.list := Go.mergeSort_of_perm h
theorem Bt.strays (h : Bt size c d0 L all) (hs : Stray d0 d) : (∃ gd, scanD U0 d = ⟨all, L.l, gd, 0⟩) ∧ DenFor U0 d ∧ ∃ d2 ps, mendD U0 d = ⟨d2, all, ps, 0⟩ ∧ d2.list = d0.list := by
  obtain ⟨-, -, A, p, old, fs, m, hl, ht, hall⟩ := h.scanned
  obtain ⟨A', p', hi, -⟩ := h.ak.inv
  have hnm : ∀ x, x ∈ staysOf L.l ↔ x ∈ namesF d0.files := fun x => (hi.names.mem_iff).symm
  have ht2 : TIn SegWh d.files L.l A p old fs [] m := ht.files hs.calm.names fun x hx => (hs.files x ((hnm x).1 hx)).2
  have hw := ht2.imp (Wh' := WholeU U0) fun _ _ _ h => h.whole
  have hsc := hw.scan hs.calm.up
  rw [← hall] at hsc
  refine ⟨⟨_, hsc⟩, hw.den0 hs.calm.up, ?_⟩
  obtain ⟨F, f1, f2, f3⟩ := mendWith_calm hs.calm (r := scanD U0 d) (k := (segB p.first.toNat fs).length) (by rw [hsc]) (by rw [hsc]) (by
    rw [hsc]
    simp only
    obtain ⟨s, s1, -⟩ := ht2.open_
    rw [hl, lastP_snoc, s1]
    simp)
  rw [hsc] at f1 f3
  refine ⟨_, _, (show mendD U0 d = mendWith d (scanD U0 d) from rfl).trans (by rw [hsc]; exact f1), list_perm ?_⟩
  simp only
  refine (List.perm_ext_iff_of_nodup f2 h.calm.names).2 fun x => ?_
  rw [f3 x]
  simp only
  rw [hnm x]
  exact ⟨fun h => h.2, fun h => ⟨(hs.files x h).1, h⟩⟩
end
end Go.Proofs.YtphgiobklbpdeaaGreatDoor
