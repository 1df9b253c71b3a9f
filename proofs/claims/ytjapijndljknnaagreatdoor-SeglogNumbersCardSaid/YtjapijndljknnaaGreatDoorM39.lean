/-
  Texts merged by a program of this claim's: RecE, KeepUse2, UpPlain.
-/
import Derived.Test.YtjapijndljknnaaGreatDoorM38
import Derived.Test.YtjapijndljknnaaGreatDoorM31
import Derived.Test.YtjapijndljknnaaGreatDoorM37
import Derived.Test.YtjapijndljknnaaGreatDoorM32
/-
  Package recover, walked: Open.
-/
namespace Go.Proofs.YtjapijndljknnaaGreatDoor
open Go Go.RowKit Go.Sort
set_option maxRecDepth 100000
set_option maxHeartbeats 1600000
section
variable {X Y : Nat → Prop} {w0 w w' : World} {b : Nat} {d d' : Dsk} {U : List UInt8 → Int × List Ev × Int}
theorem HasL.less {p : Nat} {L : Lg} (h : HasL X w0 w p b d L) (hy : ∀ k, Y k → X k) : HasL Y w0 w p b d L := by
  obtain ⟨g, o, cap, h⟩ := h
  exact ⟨g, o, cap, h.mem, h.disk.weak fun k hk => hk.imp (hy k) id, h.p0, fun hc => h.p1 (hy _ hc), h.g0, h.g1.1, fun hc => h.g1.2 (hy _ hc)⟩
end
end Go.Proofs.YtjapijndljknnaaGreatDoor

/-
  A log that was opened anew, on any disk, behind frames: what its calls ask; plain words for RecoverKeeps.
-/
namespace Go.Proofs.YtjapijndljknnaaGreatDoor
open Go Go.RowKit Go.Sort
set_option maxRecDepth 100000
structure Rk (z : Int) (c : Nat) (L : Lg) : Prop where
  bytes : L.bytes ≤ 16777234 + c * 1239
  size : L.size = z
section
variable {z : Int} {c : Nat} {L : Lg} {d : Dsk} {es all told : List Ev} {Wh : Pc → List UInt8 → List Ev → Prop} {F : List (Str × DFile)}
theorem KInv.facts (h : KInv Wh F L all) : L.n = all.length ∧ L.l.length ≤ 100 ∧ 0 ≤ (lastP L.l).first ∧ L.l ≠ [] := by
  obtain ⟨A, p, old, fs, m, h⟩ := h
  have hr := (rightL_iff A p).2 h.right
  have h2 := (rightL_bound hr).2.1
  have h3 := right_bound h.right p (by simp)
  refine ⟨h.n, by rw [h.l]; exact h2, by rw [h.last]; exact h3.1, by rw [h.l]; simp⟩
theorem another_size (L : Lg) (d : Dsk) : (L.another d).L.size = L.size := by
  unfold Lg.another
  repeat' split
  all_goals rfl
theorem Rk.add (h : Rk z c L) (hn : L.n < 2 ^ 64) (h2 : es.length ≤ 30) : Rk z (c + 1) (L.add d es).L := by
  have hf := frm_le h2
  have hb := h.bytes
  have hr : (L.roomed d).L.bytes ≤ 16777234 + c * 1239 ∧ (L.roomed d).L.size = z := by
    unfold Lg.roomed
    split
    · have h1 := (another_small L d).2
      have h3 := headB_len hn
      exact ⟨by omega, (another_size L d).trans h.size⟩
    · exact ⟨hb, h.size⟩
  unfold Lg.add
  repeat' split
  · exact ⟨by simp only; omega, h.size⟩
  · exact ⟨by simp only; omega, h.size⟩
  · exact ⟨by simp only; omega, h.size⟩
  · exact ⟨by simp only; omega, hr.2⟩
  · unfold Lg.put
    split
    · exact ⟨by simp only; omega, hr.2⟩
    · exact ⟨by simp only; omega, hr.2⟩
theorem Rk.sync (h : Rk z c L) : Rk z c (L.sync d).L := by
  unfold Lg.sync
  repeat' split
  · exact h
  · exact ⟨h.bytes, h.size⟩
  · exact ⟨h.bytes, h.size⟩
theorem Rk.mono {c' : Nat} (h : Rk z c L) (hc : c ≤ c') : Rk z c' L := ⟨by have := h.bytes; have := Nat.mul_le_mul_right 1239 hc; omega, h.size⟩
variable {X : Nat → Prop} {w0 w : World} {p b : Nat}
theorem Rk.call (h : HasL X w0 w p b d L) (hk : KInv Wh d.files L all) (hr : Rk z c L) (hz : in64 z) (hc : c ≤ 1000) (ha : all.length ≤ 1000000) (ht : Tab w0) {v : Value} (hv : Evs w v es) :
    Calls Tryz.prog 31 #[.pointer (some ⟨p, 0, none⟩), v] w (DidL X w0 w p b (L.add d es).d (L.add d es).L (.int .i64 (L.add d es).e)) := by
  obtain ⟨f1, f2, f3, -⟩ := hk.facts
  have hb := hr.bytes
  exact LAppend_ok h ht ⟨by omega, by omega⟩ f3 (by omega) (by rw [hr.size]; exact hz) hv h.pok
end
section
variable {U : List UInt8 → Int × List Ev × Int} {d : Dsk} {size : Int} {told all : List Ev} {s : Nat}
theorem file_le (ok : d.Ok) (n : Str) : (fileOf d.files n).bytes.length ≤ 16777216 := by
  unfold fileOf
  cases hg : getF d.files n with
  | none => simp
  | some f => exact bytes_le ok hg
theorem open_rk (ok : (openD U d size).d.Ok) (h0 : (openD U d size).e = 0) : (openD U d size).L.bytes ≤ 16777234 := by
  have h9 : (headB 0).length ≤ 18 := headB_len (by decide)
  unfold openD at ok h0 ⊢
  split
  · simp only [newLg]; omega
  rename_i c1
  rw [if_neg c1] at ok h0
  split
  · simp only [newLg]; omega
  rename_i c2
  rw [if_neg c2] at ok h0
  split
  · split
    · simp only [newLg]; omega
    · simp only [newLg]; omega
  rename_i c3
  rw [if_neg c3] at ok h0
  split
  · simp only [newLg]; omega
  rename_i c4
  rw [if_neg c4] at ok h0
  simp only at ok
  have hz : (resumeD (mendD U d).d size (mendD U d).ps (mendD U d).es.length).2 = 0 := by
    rcases Decidable.em ((resumeD (mendD U d).d size (mendD U d).ps (mendD U d).es.length).2 = 0) with h | h
    · exact h
    · exact absurd h c4
  simp only [onLg]
  generalize (mendD U d).d = d2 at *
  unfold resumeD at ok hz
  split at hz
  · exact absurd hz (by simp)
  rename_i g1
  rw [if_neg g1] at ok
  split at hz
  · rename_i g2; exact absurd hz g2
  rename_i g2
  rw [if_neg g2] at ok
  obtain ⟨⟨d3, y⟩, hy⟩ : ∃ r, d2.sync (lastP (mendD U d).ps).name = r := ⟨_, rfl⟩
  rw [hy] at ok hz
  unfold Dsk.sync at hy
  rcases op_cases hy with ⟨-, hf, -⟩ | ⟨hne, -, -⟩
  · have := file_le ok (lastP (mendD U d).ps).name
    rw [hf, fileOf_setF, if_pos rfl] at this
    simp only at this
    omega
  · exact absurd hz hne
/-- A log that goes on: what holds of it. -/
theorem Rt.opened (hc : Calm d) (hm : d.most = 1048576) (h : Rt (WholeU U0) d.files told s) (hs : 64 ≤ size) (hs2 : size ≤ 16777216) (ht : told.length ≤ 1000000) (ok : (openD U0 d size).d.Ok) :
    (openD U0 d size).e = 0 ∧ (openD U0 d size).es = told ∧ KInv (WholeU U0) (openD U0 d size).d.files (openD U0 d size).L told ∧ (openD U0 d size).L.acked = told.length ∧ Rk size 0 (openD U0 d size).L ∧ Calm (openD U0 d size).d ∧ (openD U0 d size).d.most = 1048576 := by
  obtain ⟨a1, a2, a3⟩ := h.openCalm hc (by omega) hs hs2 (by omega)
  obtain ⟨b1, b2, b3, b4, -⟩ := (h.open_ (size := size)).1 a1
  exact ⟨a1, b1, b2, b3, ⟨by have := open_rk ok a1; omega, b4⟩, a2, by rw [a3]; exact hm⟩
/-- Another opening, whether it fails or not. -/
theorem Rt.again (h : Rt (WholeU U0) d.files told s) : Rt (WholeU U0) (openD U0 d size).d.files told s := by
  have hle := h.le
  obtain ⟨o1, o2⟩ := h.open_ (size := size)
  rcases Decidable.em ((openD U0 d size).e = 0) with he | he
  · obtain ⟨-, k, ka, -⟩ := o1 he
    exact k.rt.low (by rw [ka]; exact hle)
  · exact o2 he
theorem op_most (d : Dsk) (may : Int) (act : List (Str × DFile) → List (Str × DFile)) : (d.op may act).1.most = d.most := by
  unfold Dsk.op
  repeat' split
  all_goals rfl
theorem fresh_most (d : Dsk) (n : Str) (b : List UInt8) : (d.fresh n b).1.most = d.most := by
  have h1 : ∀ d : Dsk, (d.gone n).1.most = d.most := fun d => op_most d _ _
  have h2 : ∀ d : Dsk, (d.append n b).1.most = d.most := fun d => op_most d _ _
  have h3 : ∀ d : Dsk, (d.sync n).1.most = d.most := fun d => op_most d _ _
  unfold Dsk.fresh andThen
  repeat' split
  all_goals first | (rw [h3, h2, h1]) | (rw [h2, h1]) | (rw [h1])
theorem install_most (d : Dsk) (l : List Pc) : (d.install l).1.most = d.most := by
  unfold Dsk.install andThen
  repeat' split
  · exact (op_most _ _ _).trans (fresh_most _ _ _)
  · exact fresh_most _ _ _
  · rfl
theorem sync_most (L : Lg) (d : Dsk) : (L.sync d).d.most = d.most := by
  unfold Lg.sync
  repeat' split
  · rfl
  · exact op_most _ _ _
  · exact op_most _ _ _
end
end Go.Proofs.YtjapijndljknnaaGreatDoor

/-
  A disk without an arm stays up, whatever is done to it; plain words.
-/
namespace Go.Proofs.YtjapijndljknnaaGreatDoor
open Go
theorem KInv.imp {Wh Wh' : Pc → List UInt8 → List Ev → Prop} {F : List (Str × DFile)} {L : Lg} {all : List Ev} (hi : ∀ q b es, Wh q b es → Wh' q b es) (h : KInv Wh F L all) : KInv Wh' F L all := by
  obtain ⟨A, p, old, fs, m, h⟩ := h
  exact ⟨A, p, old, fs, m, h.nd, h.l, h.right, h.man, sealedF_imp hi h.old_, h.open_, h.m_, h.fr, h.first, h.all_, h.n, h.acked, h.free, h.pname⟩
end Go.Proofs.YtjapijndljknnaaGreatDoor
