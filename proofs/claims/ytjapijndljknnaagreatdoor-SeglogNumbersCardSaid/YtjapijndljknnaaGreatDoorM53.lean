/-
  Texts merged by a program of this claim's: CkFree, CNPlain, NoLog, CompBad, LogDisk, Log7N.
-/
import Derived.Test.YtjapijndljknnaaGreatDoorM50
import Derived.Test.YtjapijndljknnaaGreatDoorM42
import Derived.Test.YtjapijndljknnaaGreatDoorM44
import Derived.Test.YtjapijndljknnaaGreatDoorM17
import Derived.Test.YtjapijndljknnaaGreatDoorM41
import Derived.Deep.DeepCutAuto
import Derived.Test.YtjapijndljknnaaGreatDoorM37
import Derived.Test.YtjapijndljknnaaGreatDoorLogJS
import Derived.Test.YtjapijndljknnaaGreatDoorM43
import Derived.Test.YtjapijndljknnaaGreatDoorM34
/-
  On a calm disk with room compaction has no error. Plain words.
-/
namespace Go.Proofs.YtjapijndljknnaaGreatDoor
open Go
set_option maxRecDepth 100000
section
variable {c : Nat} {z : Int} {d d2 : Dsk} {L : Lg} {all es : List Ev}
theorem Ci.free (h : Ci c z d L all) (hc : c ≤ 40) (hl : lone L.l.dropLast = false) :
    ∃ d', compD all L d = ⟨d', { L with l := [densePc (lastP L.l).first.toNat, lastP L.l] }, L.l.dropLast.length, 0⟩ ∧ Ci c z d' { L with l := [densePc (lastP L.l).first.toNat, lastP L.l] } all := by
  have hu := h.kin.used h.names (by have := h.len; omega)
  have hct := h.kin.count h.names
  have hle := h.len
  have hpc := h.pcs
  have hm := h.most
  have hkk := comp_keepsL (d := d) wb_whole wb_dense h.kin h.ok (by omega)
  have hkf := comp_files (d := d) (h.kin.imp wb_whole) hl
  obtain ⟨A, p, old, fs, m, k⟩ := h.kin
  have hU : KIn (WholeU unpackB) d.files L all A p old fs m := ⟨k.nd, k.l, k.right, k.man, sealedF_imp wb_whole k.old_, k.open_, k.m_, k.fr, k.first, k.all_, k.n, k.acked, k.free, k.pname⟩
  have hlast := k.last
  have hdl : L.l.dropLast = A := by rw [k.l]; simp
  have hb := right_bound k.right p (by simp)
  rw [hlast] at hkf ⊢
  rw [hdl] at hl ⊢
  have hfr := hU.fresh_name hl
  obtain ⟨n, hn⟩ : ∃ n, p.first.toNat = n := ⟨_, rfl⟩
  have hfi := k.first
  have hall := k.all_
  have hno : n = old.length := by omega
  have hn1 : n ≤ 1200 := by rw [hall, List.length_append] at hle; omega
  rw [hn] at hfr hkf ⊢
  have hto : all.take n = old := by rw [hall, hno, List.take_left]
  have hpb := packB_len (l := old) (by omega)
  have hdok := dName_ok (n := n) (by omega)
  have hf1 := fresh_calm (b := packB 0 old) h.calm (okPiece_name hdok).1 (by omega) (by omega)
  have c1 := h.calm.delF (dName n)
  have m1 := not_mem_delF h.calm.names (dName n)
  have u1 := usedF_delF d.files (dName n)
  have l1 := length_delF d.files (dName n)
  obtain ⟨F1, hF1⟩ : ∃ F, delF d.files (dName n) ++ [(dName n, (⟨packB 0 old, (packB 0 old).length⟩ : DFile))] = F := ⟨_, rfl⟩
  have u2 : usedF F1 = usedF (delF d.files (dName n)) + (packB 0 old).length := by rw [← hF1]; simp [usedF]
  have l2 : F1.length = (delF d.files (dName n)).length + 1 := by rw [← hF1]; simp
  have c2 : Calm ({ d with files := F1 } : Dsk) := h.calm.same _ (by rw [← hF1, ← setF_miss m1]; exact nodup_setF c1.names _ _)
  rw [hF1] at hf1
  have hn1' : ∀ x, x ∈ namesF F1 ↔ x = dName n ∨ x ∈ namesF d.files := fun x => by
    rw [← hF1]
    unfold namesF
    rw [List.map_append, List.mem_append]
    show x ∈ namesF (delF d.files (dName n)) ∨ _ ↔ _
    rw [namesF_delF, h.calm.names.mem_erase_iff]
    simp only [List.map_cons, List.map_nil, List.mem_singleton]
    constructor
    · rintro (⟨-, e⟩ | e)
      · exact .inr e
      · exact .inl e
    · rintro (e | e)
      · exact .inr e
      · by_cases he : x = dName n
        · exact .inr he
        · exact .inl ⟨he, e⟩
  have hpne : p.name ≠ dName n := hfr p (by rw [k.l]; simp)
  have hold1 : 1 ≤ old.length := by
    rcases sealed_pos k.right.sealed_ with rfl | hh
    · simp [lone] at hl
    · rw [← k.right.first] at hh; omega
  have hseal : sealedFrom [] 0 [densePc n] = true := by
    have e1 : decide (1 ≤ ((n : Nat) : Int)) = true := decide_eq_true (by omega)
    have e2 : decide (((n : Nat) : Int) ≤ 1099511627776) = true := decide_eq_true (by omega)
    show ((okPiece (dName n) && !decide (dName n ∈ ([] : List Str)) && decide ((0 : Int) = 0) && decide (1 ≤ ((n : Nat) : Int)) && decide (((n : Nat) : Int) ≤ 1099511627776)) && true) = true
    rw [hdok, e1, e2]
    simp
  have hr2 : rightL ([densePc n] ++ [p]) = true := (rightL_iff _ _).2 ⟨by simp, hseal, k.right.name, by simp only [List.map_cons, List.map_nil, List.mem_singleton]; exact hpne, by simp only [endOf, densePc]; omega, k.right.count, k.right.dense⟩
  have hml := manifestB_len hr2
  have hin := install_calm c2 hr2 (by simp only; omega) (by simp only; omega)
  have c3 := (c2.delF nextS).setF manifestS ⟨manifestB ([densePc n] ++ [p]), (manifestB ([densePc n] ++ [p])).length⟩
  simp only at hin c3
  obtain ⟨F2, hF2⟩ : ∃ F, setF (delF F1 nextS) manifestS ⟨manifestB ([densePc n] ++ [p]), (manifestB ([densePc n] ++ [p])).length⟩ = F := ⟨_, rfl⟩
  rw [hF2] at hin c3
  have hn2 : ∀ x, x ∈ namesF F2 ↔ x = manifestS ∨ (x ≠ nextS ∧ x ∈ namesF F1) := fun x => by
    rw [← hF2, nmF_setF, namesF_delF]
    have he : ∀ y, y ∈ (namesF F1).erase nextS ↔ y ≠ nextS ∧ y ∈ namesF F1 := fun y => c2.names.mem_erase_iff
    split
    · rename_i hh
      rw [he] at hh ⊢
      constructor
      · exact .inr
      · rintro (rfl | e)
        · exact hh
        · exact e
    · rw [List.mem_append, List.mem_singleton, he]
      exact or_comm
  have hok2 := right_name k.right
  have hAn : (A.map Pc.name).Nodup ∧ p.name ∉ A.map Pc.name := by
    refine ⟨?_, k.right.apart⟩
    exact sealed_nodup k.right.sealed_
  obtain ⟨F3, r1, r2, r3⟩ := rmEach_calm A _ c3 hAn.1 (fun q hq => by
    simp only
    refine (hn2 _).2 (.inr ⟨?_, (hn1' _).2 (.inr ?_)⟩)
    · exact (okPiece_name (hok2 q (by simp [hq]))).2.2
    · obtain ⟨b, e, hf, hw⟩ := sealedF_at hU.old_ q hq
      refine mem_of_ne ?_
      rw [hf]
      exact hw.2.2.1)
  have hcomp : compD all L d = ⟨{ d with files := F3 }, { L with l := [densePc n] ++ [p] }, A.length, 0⟩ := by
    have hsw : L.swap ({ d with files := F1 } : Dsk) [densePc n] = ⟨{ d with files := F2 }, { L with l := [densePc n] ++ [p] }, 0⟩ := by
      unfold Lg.swap
      rw [h.over, hlast, if_neg (by simp), if_neg (by rw [hr2]; decide), hin, if_neg (by simp)]
    unfold compD
    rw [hlast, hdl, hn, hto, h.over, if_neg (by simp), if_neg (by simp [hl]), if_neg (by simp [h.calm.up]), hf1]
    simp only
    rw [if_neg (by simp), hsw]
    simp only
    rw [if_neg (by simp), r1]
    simp only
    rw [if_neg (by simp), h.over]
  rw [hcomp] at hkk ⊢
  refine ⟨_, rfl, ⟨h.calm.up, h.calm.arm, r2⟩, hm, (hkk.2 rfl).2.2.2, fun x hx => ?_, h.over, by simp only [List.length_append, List.length_cons, List.length_nil]; omega, hle, ⟨h.rk.1, h.rk.2⟩, h.ok⟩
  have hx := (r3 x).1 hx
  simp only at hx
  obtain ⟨hx, hxa⟩ := hx
  show x ∈ manifestS :: ([densePc n] ++ [p]).map Pc.name
  rcases (hn2 x).1 hx with rfl | ⟨-, hx⟩
  · simp
  rcases (hn1' x).1 hx with rfl | hx
  · simp [densePc]
  have := h.names x hx
  unfold staysOf at this
  rw [k.l, List.map_append] at this
  simp only [List.mem_cons, List.mem_append, List.map_cons, List.map_nil, List.mem_nil_iff, or_false] at this
  rcases this with rfl | h1 | h1
  · simp
  · exact absurd h1 hxa
  · subst h1; simp
end
end Go.Proofs.YtjapijndljknnaaGreatDoor

/-
  The logs of the chapter's examples on compaction: what they hold, a file that lies in the way, files that are spoilt. Plain words (CompactNumbers).
-/
namespace Go.Proofs.YtjapijndljknnaaGreatDoor
open Go
set_option maxRecDepth 100000
section
variable {c : Nat} {z : Int} {d : Dsk} {L : Lg} {all : List Ev}
end
end Go.Proofs.YtjapijndljknnaaGreatDoor

/-
  What a log that neither Create nor Resume made answers: nothing, and ErrNil.
-/
namespace Go.Proofs.YtjapijndljknnaaGreatDoor
open Go Go.RowKit Go.Sort
set_option maxRecDepth 100000
set_option maxHeartbeats 800000

/-- The cells of a log without a disk, at b. -/
structure ZeroLog (w : World) (b : Nat) : Prop where
  c0 : w.cell? ⟨b, 0, none⟩ = some (.pointer none)
  c2 : w.cell? ⟨b, 2, none⟩ = some (.slice none 0 0)
  c3 : w.cell? ⟨b, 3, none⟩ = some (.int .i64 0)
  c4 : w.cell? ⟨b, 4, none⟩ = some (.int .i64 0)
  c6 : w.cell? ⟨b, 6, none⟩ = some (.bool false)
theorem ZeroLog.nw {w w' : World} {b : Nat} (h : ZeroLog w b) (hw : Nw w w') : ZeroLog w' b := ⟨hw.cell h.c0, hw.cell h.c2, hw.cell h.c3, hw.cell h.c4, hw.cell h.c6⟩
/-- No pointer, or one to a log without a disk. -/
def NoLog (w : World) (v : Value) : Prop := v = .pointer none ∨ ∃ b, v = .pointer (some ⟨b, 0, none⟩) ∧ ZeroLog w b
theorem NoLog.nw {w w' : World} {v : Value} (h : NoLog w v) (hw : Nw w w') : NoLog w' v :=
  h.imp id fun ⟨b, h1, h2⟩ => ⟨b, h1, ⟨hw.cell h2.c0, hw.cell h2.c2, hw.cell h2.c3, hw.cell h2.c4, hw.cell h2.c6⟩⟩
theorem NoLog.ptr {w : World} {v : Value} (h : NoLog w v) : ∃ p, v = .pointer p := by rcases h with rfl | ⟨b, rfl, -⟩ <;> exact ⟨_, rfl⟩
section
variable {w : World} {v : Value}
end
end Go.Proofs.YtjapijndljknnaaGreatDoor

/-
  Package compact, walked: Compact of a log whose files are spoilt, of nil, of a log that nobody made.
-/
namespace Go.Proofs.YtjapijndljknnaaGreatDoor
open Go Go.RowKit Go.Sort
set_option maxRecDepth 100000
set_option maxHeartbeats 1600000
section
variable {X : Nat → Prop} {w0 w : World} {p b : Nat} {d : Dsk} {L : Lg}
end
end Go.Proofs.YtjapijndljknnaaGreatDoor

/-
  A log's disk, used beside the log: Append, Cut, Install.
-/
namespace Go.Proofs.YtjapijndljknnaaGreatDoor
open Go Go.RowKit Go.Sort
section
variable {X : Nat → Prop} {w0 w w' : World} {p b : Nat} {d d' : Dsk} {L : Lg} {x : Int}
end
end Go.Proofs.YtjapijndljknnaaGreatDoor

/-
  amanuensislaw07.logged, walked: with the invariant Ci.
-/
namespace Go.Proofs.YtjapijndljknnaaGreatDoor
open Go Go.RowKit Go.Sort
set_option maxRecDepth 100000
set_option maxHeartbeats 1600000
end Go.Proofs.YtjapijndljknnaaGreatDoor
