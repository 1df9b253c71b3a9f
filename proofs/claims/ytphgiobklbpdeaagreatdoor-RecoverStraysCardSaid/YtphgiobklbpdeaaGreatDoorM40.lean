/-
  Texts merged by a program of this claim's: RecUse2.
-/
import Derived.Test.YtphgiobklbpdeaaGreatDoorM34
/-
  A log's disk beside recovery, in plain words: what the laws of chapter 06 ask of sealed pieces, cuts, strays.
-/
namespace Go.Proofs.YtphgiobklbpdeaaGreatDoor
open Go
section
variable {d : Dsk} {l A : List Pc} {p : Pc} {old told all : List Ev} {fs : List (List Ev)} {t : List UInt8} {m sure c : Nat} {L : Lg} {F : List (Str × DFile)} {size : Int}
/-- What is told of a log's disk. -/
theorem Bt.scanned (h : Bt size c d L all) : (∃ gd, scanD U0 d = ⟨all, L.l, gd, 0⟩) ∧ DenFor U0 d ∧ ∃ A p old fs m, L.l = A ++ [p] ∧ TIn SegWh d.files L.l A p old fs [] m ∧ all = old ++ fs.flatten := by
  obtain ⟨A, p, old, fs, m, hk⟩ := h.kin
  have ht := hk.tin
  have hs := (ht.imp (Wh' := WholeU U0) fun _ _ _ h => h.whole).scan h.calm.up
  refine ⟨⟨((segB p.first.toNat fs).length : Int), by rw [hs, hk.all_]⟩, (ht.imp (Wh' := WholeU U0) fun _ _ _ h => h.whole).den0 h.calm.up, A, p, old, fs, m, hk.l, ht, hk.all_⟩
theorem Bt.sealed (h : Bt size c d L all) {k : Nat} (hk : k + 1 < L.l.length) : 0 < (fileOf d.files (L.l[k]'(by omega)).name).bytes.length ∧ ∀ j < (fileOf d.files (L.l[k]'(by omega)).name).bytes.length, ∃ d', d.cut (L.l[k]'(by omega)).name j = (d', 0) ∧ scanD U0 d' = ⟨[], [], 0, 14⟩ ∧ DenFor U0 d' ∧ mendD U0 d' = ⟨d', [], [], 14⟩ ∧ openD U0 d' 64 = ⟨d', newLg 64, [], 14⟩ := by
  obtain ⟨-, -, A, p, old, fs, m, hl, ht, -⟩ := h.scanned
  have hkA : k < A.length := by rw [hl] at hk; simp at hk; omega
  have hq : L.l[k]'(by omega) = A[k] := by
    have e : ∀ (l : List Pc) (hh : l = A ++ [p]) (hi : k < l.length), l[k] = A[k] := fun l hh hi => by subst hh; rw [List.getElem_append_left hkA]
    exact e L.l hl (by omega)
  rw [hq]
  have hqm : A[k] ∈ A := List.getElem_mem hkA
  obtain ⟨b, e, f1, fs', f2, rfl, -⟩ := sealedF_at ht.old_ _ hqm
  refine ⟨?_, fun j hj => ?_⟩
  · rw [f1]
    simp only
    have := headB_ne (A[k]).first.toNat
    have h2 := List.length_pos_iff.2 this
    simp only [segB, List.length_append]
    omega
  obtain ⟨d', c1, c2, c3⟩ := ht.spoilt (U := U0) h.calm hqm hj
  have hm : mendD U0 d' = ⟨d', [], [], 14⟩ := by
    unfold mendD mendWith
    rw [c3]
    rw [if_pos (by simp)]
  refine ⟨d', c1, c3, ?_, hm, ?_⟩
  · have hqn : ¬ (A[k]).name = manifestS := (okPiece_name (right_name ht.right _ (by simp [hqm]))).2.1
    have hman : fileOf d'.files manifestS = ⟨manifestB L.l, (manifestB L.l).length⟩ := by
      rcases cut_files (d := d) (n := (A[k]).name) (k := (j : Int)) with ⟨g1, g2⟩ | ⟨g1, g2⟩
      · rw [c1] at g2
        rw [g2, fileOf_setF, if_neg hqn]; exact ht.man
      · rw [c1] at g1; exact absurd rfl g1
    refine .inr ?_
    rw [read_of c2.up (congrArg DFile.bytes hman) (manifestB_ne _)]
    simp only
    rw [listedB_at ht.rightL, hl]
    intro q hq
    rcases List.mem_append.1 hq with hq | hq
    · obtain ⟨b, e, -, hw⟩ := sealedF_at (ht.imp (Wh' := WholeU U0) fun _ _ _ h => h.whole).old_ q hq
      exact whole0 hw
    · rw [List.mem_singleton] at hq; subst hq; exact ht.right.dense
  · unfold openD
    rw [if_neg (by omega), hm, if_pos (by simp)]
theorem Bt.sealed' (h : Bt size c d L all) {ps : List Pc} (hps : L.l = ps) (k : Nat) (hk : k + 1 < ps.length) : 0 < (fileOf d.files (ps[k]'(by omega)).name).bytes.length ∧ ∀ j < (fileOf d.files (ps[k]'(by omega)).name).bytes.length, ∃ d', d.cut (ps[k]'(by omega)).name j = (d', 0) ∧ scanD U0 d' = ⟨[], [], 0, 14⟩ ∧ DenFor U0 d' ∧ mendD U0 d' = ⟨d', [], [], 14⟩ ∧ openD U0 d' 64 = ⟨d', newLg 64, [], 14⟩ := by
  subst hps; exact h.sealed hk
end
end Go.Proofs.YtphgiobklbpdeaaGreatDoor
