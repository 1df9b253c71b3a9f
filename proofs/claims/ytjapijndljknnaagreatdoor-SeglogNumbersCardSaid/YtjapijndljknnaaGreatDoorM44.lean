/-
  Texts merged by a program of this claim's: Aw7, Aw6Plain, Aw6, RecL, Tab.
-/
import Derived.Test.YtjapijndljknnaaGreatDoorM41
import Derived.Test.YtjapijndljknnaaGreatDoorM43
import Derived.Test.YtjapijndljknnaaGreatDoorM18
import Derived.Test.YtjapijndljknnaaGreatDoorM11
import Derived.Test.YtjapijndljknnaaGreatDoorM31
import Derived.Test.YtjapijndljknnaaGreatDoorM26
import Derived.Test.YtjapijndljknnaaGreatDoorM39
import Derived.Test.YtjapijndljknnaaGreatDoorM42
import Derived.Lib.SlBytesConst
import Derived.Test.YtjapijndljknnaaGreatDoorM36
/-
  The chapter's examples on compaction, as every statement of chapter 07 asks them.
-/
namespace Go.Proofs.YtjapijndljknnaaGreatDoor
open Go Go.RowKit Go.Sort
set_option maxRecDepth 100000
set_option maxHeartbeats 1600000
end Go.Proofs.YtjapijndljknnaaGreatDoor

/-
  The chapter's examples on recovery, in plain words.
-/
namespace Go.Proofs.YtjapijndljknnaaGreatDoor
open Go
def f2 (a b : DFile) : List (Str × DFile) := [(segName 0, a), (manifestS, b)]
def manF : DFile := ⟨manifestB [pc0], (manifestB [pc0]).length⟩
theorem seg_man : ¬ segName 0 = manifestS := by rw [seg0_eq]; decide
theorem f2_set (a b c : DFile) : setF (f2 a b) (segName 0) c = f2 c b := by simp [f2, setF]
theorem f2_setM (a b c : DFile) : setF (f2 a b) manifestS c = f2 a c := by simp [f2, setF, seg_man]
theorem f2_file (a b : DFile) : fileOf (f2 a b) (segName 0) = a := by simp [f2, fileOf, getF]
theorem f2_man (a b : DFile) : fileOf (f2 a b) manifestS = b := by simp [f2, fileOf, getF, seg_man]
theorem right0 : RightP [] pc0 := ⟨by simp, rfl, segName_ok (by decide), by simp, rfl, rfl, rfl⟩
theorem man_len : (manifestB [pc0]).length ≤ 71 := by
  have := manifestB_le (l := [pc0]) ((rightL_iff [] _).2 right0)
  simpa using this
structure Sx (d : Dsk) (L : Lg) (fs : List (List Ev)) (m : Nat) : Prop where
  inv : LInv d L [] pc0
  most : d.most = 1000
  files : d.files = f2 ⟨segB 0 fs, (segB 0 (fs.take m)).length⟩ manF
  bytes : L.bytes = 9 + 11 * fs.length
  n : L.n = fs.length
  len : (segB 0 fs).length = 9 + 11 * fs.length
  size : L.size = 64
theorem Sx.new : ∃ d, createD (newDsk 1000) 64 = (d, 0) ∧ Sx d (newLg 64) [] 0 := by
  obtain ⟨F, h1, h2, h3, h4⟩ := create_calm' 1000 (by omega) (size := 64) (by omega) (by omega)
  exact ⟨_, h1, ⟨h2, rfl, by rw [h4]; simp [f2, segB, manF, newLg, pc0], by simp [newLg, head0], rfl, by simp [segB, head0], rfl⟩⟩
section
variable {d : Dsk} {L : Lg} {fs : List (List Ev)} {m : Nat}
theorem Sx.used (h : Sx d L fs m) : usedF d.files ≤ 80 + 11 * fs.length := by
  have := man_len
  have h2 := h.len
  rw [h.files]
  simp [usedF, f2, manF]
  omega
theorem Sx.add (h : Sx d L fs m) (hm : m ≤ fs.length) (hk : fs.length < 5) {e : Ev} (he : (frmB [e]).length = 11) : ∃ d' L', L.add d [e] = ⟨d', L', 0⟩ ∧ Sx d' L' (fs ++ [[e]]) m := by
  have hu := h.used
  obtain ⟨p1, p2, p3⟩ := put_calm h.inv [e] (by rw [he, h.most]; omega)
  refine ⟨_, _, (add_stay h.inv (by simp) (by simp) (fun hc => ?_)).trans p1, p2, h.most, ?_, ?_, ?_, ?_, h.size⟩
  · have h1 := h.bytes
    have h2 := h.size
    omega
  · simp only
    rw [h.files, show pc0.name = segName 0 from rfl, f2_file, f2_set]
    simp only
    rw [List.take_append_of_le_length hm]
    simp [segB]
  · simp only; rw [h.bytes, he, List.length_append]; simp; omega
  · simp [h.n]
  · rw [show segB 0 (fs ++ [[e]]) = segB 0 fs ++ frmB [e] by simp [segB], List.length_append, h.len, he, List.length_append]; simp; omega
theorem Sx.sync (h : Sx d L fs m) : ∃ d' L', L.sync d = ⟨d', L', 0⟩ ∧ Sx d' L' fs fs.length := by
  obtain ⟨p1, p2, p3⟩ := lsync_calm h.inv
  refine ⟨_, _, p1, p2, h.most, ?_, h.bytes, h.n, h.len, h.size⟩
  simp only
  rw [h.files, show pc0.name = segName 0 from rfl, f2_file, f2_set, List.take_length]
theorem Sx.list (h : Sx d L fs m) : d.list = [manifestS, [115, 48]] := by
  rw [list_eq, h.files]
  simp only [namesF, f2, List.map_cons, List.map_nil, seg0_eq]
  decide
end
theorem f2_leaves {a : DFile} {b : DFile} {j k : Int} : crashF [manifestS, segName 0] [j, k] (f2 a b) = f2 (leaves a k) (leaves b j) := by
  simp [crashF, f2_setM, f2_set, f2_file, f2_man]
section
variable {d : Dsk} {L : Lg} {e1 e2 e3 : Ev}
theorem Sx.crash (h : Sx d L [[e1], [e2], [e3]] 2) (h3 : (frmB [e3]).length = 11) : (d.crash [0, 10]).files = f2 ⟨segB 0 [[e1], [e2]] ++ (frmB [e3]).take 10, 41⟩ manF ∧ (segB 0 [[e1], [e2]]).length = 31 := by
  have hl := h.len
  have hs : segB 0 [[e1], [e2], [e3]] = segB 0 [[e1], [e2]] ++ frmB [e3] := by simp [segB]
  have h31 : (segB 0 [[e1], [e2]]).length = 31 := by rw [hs, List.length_append, h3] at hl; simp at hl; omega
  refine ⟨?_, h31⟩
  unfold Dsk.crash
  simp only
  rw [h.list, h.files, ← seg0_eq, f2_leaves]
  have l1 : leaves ⟨segB 0 [[e1], [e2], [e3]], (segB 0 ([[e1], [e2], [e3]].take 2)).length⟩ 10 = ⟨segB 0 [[e1], [e2]] ++ (frmB [e3]).take 10, 41⟩ := by
    unfold leaves
    rw [show ([[e1], [e2], [e3]] : List (List Ev)).take 2 = [[e1], [e2]] from rfl]
    simp only
    rw [hs, h31, List.length_append, h31, h3]
    simp only [show 31 + min (10 : Int).toNat (31 + 11 - 31) = 31 + 10 from rfl]
    rw [← h31, List.take_length_add_append, h31]
  rw [l1]
  congr 1
  exact leaves_self _ rfl
end
section
variable {U : List UInt8 → Int × List Ev × Int} {d : Dsk} {e1 e2 e3 : Ev}
end
end Go.Proofs.YtjapijndljknnaaGreatDoor

/-
  The chapter's examples on recovery, as every statement of chapter 06 asks them.
-/
namespace Go.Proofs.YtjapijndljknnaaGreatDoor
open Go Go.RowKit Go.Sort
set_option maxRecDepth 100000
set_option maxHeartbeats 1600000
section
variable {X : Nat → Prop} {w0 w w' : World} {p b : Nat} {d d' : Dsk} {L : Lg} {fs : List (List Ev)} {m : Nat}
theorem Sx.call (h : HasL X w0 w p b d L) (hs : Sx d L fs m) (hk : fs.length ≤ 5) (ht : Tab w0) {v : Value} {es : List Ev} (hv : Evs w v es) :
    Calls Tryz.prog 31 #[.pointer (some ⟨p, 0, none⟩), v] w (DidL X w0 w p b (L.add d es).d (L.add d es).L (.int .i64 (L.add d es).e)) := by
  have hl : L.l = [pc0] := hs.inv.l
  refine LAppend_ok h ht ⟨by rw [hs.n]; omega, by rw [hs.bytes]; omega⟩ (by rw [hl]; decide) (by rw [hl]; decide) (by rw [hs.size]; unfold in64; omega) hv h.pok
end
theorem Evs.kept {Y : Nat → Prop} {w w' : World} {v : Value} {l : List Ev} (h : Evs w v l) (hk : Kept Y w w') (hy : ∀ g, v.ownBlock = some g → Y g) : Evs w' v l := by
  refine ⟨?_, h.ok⟩
  obtain ⟨e, ⟨a, hv, hn⟩ | ⟨g, o, cap, hv, h1, h2, h3, h4⟩⟩ := h.src
  · exact ⟨e, .inl ⟨a, hv, hn⟩⟩
  · subst hv
    exact ⟨e, .inr ⟨g, o, cap, rfl, h1, h2, Nat.lt_of_lt_of_le h3 hk.1, fun j hj => hk.cell (h4 j hj) (hy g rfl)⟩⟩
end Go.Proofs.YtjapijndljknnaaGreatDoor

/-
  Files that tell, with their pieces named: behind a crash, Mend and Open; how many bytes they have. Plain words.
-/
namespace Go.Proofs.YtjapijndljknnaaGreatDoor
open Go
set_option maxRecDepth 100000
/-- The files tell, and their pieces are l. -/
def RtL (Wh : Pc → List UInt8 → List Ev → Prop) (F : List (Str × DFile)) (l : List Pc) (told : List Ev) (sure : Nat) : Prop :=
  ∃ A p old fs t m, TIn Wh F l A p old fs t m ∧ told = old ++ fs.flatten ∧ sure ≤ old.length + (fs.take m).flatten.length
section
variable {Wh Wh' : Pc → List UInt8 → List Ev → Prop} {U : List UInt8 → Int × List Ev × Int} {F F' : List (Str × DFile)} {l A : List Pc} {p : Pc} {told old all : List Ev} {fs : List (List Ev)} {t : List UInt8} {m sure : Nat} {L : Lg} {d : Dsk} {size : Int}
theorem RtL.rt (h : RtL Wh F l told sure) : Rt Wh F told sure := by
  obtain ⟨A, p, old, fs, t, m, h⟩ := h
  exact .inr ⟨l, A, p, old, fs, t, m, h⟩
theorem RtL.imp (hi : ∀ q b es, Wh q b es → Wh' q b es) (h : RtL Wh F l told sure) : RtL Wh' F l told sure := by
  obtain ⟨A, p, old, fs, t, m, h, h1⟩ := h
  exact ⟨A, p, old, fs, t, m, h.imp hi, h1⟩
theorem KInv.rtl (h : KInv Wh F L all) : RtL Wh F L.l all L.acked := by
  obtain ⟨A, p, old, fs, m, h⟩ := h
  exact ⟨A, p, old, fs, [], m, h.tin, h.all_, h.acked⟩
theorem RtL.low (h : RtL Wh F l told sure) {s : Nat} (hs : s ≤ sure) : RtL Wh F l told s := by
  obtain ⟨A, p, old, fs, t, m, h, h1, h2⟩ := h
  exact ⟨A, p, old, fs, t, m, h, h1, by omega⟩
theorem RtL.cr (h : RtL Wh F l told sure) (hc : Cr F F') : ∃ i, sure ≤ i ∧ i ≤ told.length ∧ RtL Wh F' l (told.take i) i := by
  obtain ⟨A, p, old, fs, t, m, h, rfl, hs⟩ := h
  obtain ⟨i, t', i1, i2, h'⟩ := h.cr hc
  have h3 := flat_take_le fs i1
  have h4 := flat_take_all fs i
  have e : (old ++ fs.flatten).take (old.length + (fs.take i).flatten.length) = old ++ (fs.take i).flatten := by
    have hfl : fs.flatten = (fs.take i).flatten ++ (fs.drop i).flatten := by rw [← List.flatten_append, List.take_append_drop]
    rw [hfl, ← List.append_assoc, List.take_append_of_le_length (Nat.le_of_eq List.length_append.symm), List.take_of_length_le (Nat.le_of_eq List.length_append)]
  refine ⟨old.length + (fs.take i).flatten.length, by omega, by rw [List.length_append]; omega, ⟨A, p, old, fs.take i, t', i, h', e, ?_⟩⟩
  rw [List.take_take, Nat.min_self]
  exact Nat.le_refl _
theorem RtL.le (h : RtL Wh F l told sure) : sure ≤ told.length := h.rt.le
theorem RtL.scan (hi : ∀ q b es, Wh q b es → WholeU U q b es) (hd : d.down = false) (h : RtL Wh d.files l told sure) : ∃ g, scanD U d = ⟨told, l, g, 0⟩ := by
  obtain ⟨A, p, old, fs, t, m, h, rfl, hs⟩ := h
  exact ⟨_, (h.imp hi).scan hd⟩
theorem mendW_tin {es : List Ev} (h : TIn Wh d.files l A p old fs t m) (he : (mendWith d ⟨es, l, ((segB p.first.toNat fs).length : Int), 0⟩).e = 0) :
    ∃ m', m ≤ m' ∧ TIn Wh (mendWith d ⟨es, l, ((segB p.first.toNat fs).length : Int), 0⟩).d.files l A p old fs [] m' := by
  obtain ⟨-, hT⟩ := h.cutD
  unfold mendWith at he ⊢
  simp only at he ⊢
  rw [if_neg (by simp)] at he ⊢
  generalize cutD d l ((segB p.first.toNat fs).length : Int) = r at hT he
  split at he
  · rename_i hx; exact absurd he hx
  · rename_i hx
    rw [if_neg hx]
    have h0 : r.2 = 0 := by
      rcases Decidable.em (r.2 = 0) with h | h
      · exact h
      · exact absurd h hx
    obtain ⟨m', m1, hT⟩ := hT h0
    obtain ⟨a, b, c⟩ := rmAll_files (staysOf l) r.1.list r.1 hT.nd
    split at he
    · rename_i hy; exact absurd he hy
    · rename_i hy
      rw [if_neg hy]
      exact ⟨m', m1, hT.files a b⟩
/-- Open on a calm disk whose files tell. -/
theorem RtL.openCalm (hi : ∀ q b es, Wh q b es → WholeU U q b es) (hc : Calm d) (h : RtL Wh d.files l told sure) (hs : 64 ≤ size) (hs2 : size ≤ 16777216) (ht : told.length ≤ 2305843009213693952) :
    (openD U d size).e = 0 ∧ (openD U d size).es = told ∧ (openD U d size).L.l = l ∧ KInv Wh (openD U d size).d.files (openD U d size).L told ∧ (openD U d size).L.acked = told.length ∧ (openD U d size).L.size = size ∧ (openD U d size).L.over = false ∧
      Calm (openD U d size).d ∧ (openD U d size).d.most = d.most ∧ ∀ x, x ∈ namesF (openD U d size).d.files → x ∈ staysOf l := by
  obtain ⟨A, p, old, fs, t, m, h, rfl, hsu⟩ := h
  have hsc := (h.imp hi).scan hc.up
  obtain ⟨F, k1, k2, k3⟩ := mendWith_calm hc (r := ⟨old ++ fs.flatten, l, ((segB p.first.toNat fs).length : Int), 0⟩) rfl (k := (segB p.first.toNat fs).length) rfl (by
    simp only
    obtain ⟨s, s1, -⟩ := h.open_
    rw [h.last, s1]
    simp)
  simp only at k1 k3
  have hm : mendD U d = ⟨{ d with files := F }, old ++ fs.flatten, l, 0⟩ := by unfold mendD; rw [hsc]; exact k1
  obtain ⟨m', -, hT⟩ := mendW_tin h (es := old ++ fs.flatten) (by rw [k1])
  rw [k1] at hT
  simp only at hT
  have hcF : Calm { d with files := F } := hc.same F k2
  obtain ⟨s, s1, -⟩ := hT.open_
  have hp : p.name ∈ namesF F := (hT.imp hi).there _ (by rw [hT.l_]; simp [staysOf])
  have hres := TIn.resume (d := { d with files := F }) hT (size := size)
  have hr : resumeD { d with files := F } size l ((old ++ fs.flatten).length : Nat) = ({ d with files := setF F p.name ⟨(fileOf F p.name).bytes, (fileOf F p.name).bytes.length⟩ }, 0) := by
    have hfi := hT.first
    have hR := hT.rightL
    have hrd := read_of (d := { d with files := F }) hc.up (congrArg DFile.bytes s1) (seg_ne _ _ _)
    unfold resumeD
    rw [if_neg (by rw [hR, hT.last, hfi]; rw [List.length_append] at ht ⊢; rintro (h | h | h | h | h) <;> first | omega | cases h), hT.last, hrd, if_neg (by simp)]
    exact sync_calm hcF hp
  rw [hr] at hres
  obtain ⟨hki, -⟩ := hres
  have hki := hki rfl
  unfold openD
  rw [if_neg (by omega), if_neg (by rw [hm]; simp), hm]
  simp only
  rw [if_neg hT.ne, hr]
  simp only
  rw [if_neg (by simp)]
  refine ⟨rfl, rfl, rfl, hki, rfl, rfl, rfl, hcF.setF _ _, rfl, fun x hx => ?_⟩
  simp only at hx
  rw [nmF_setF, if_pos hp] at hx
  exact ((k3 x).1 hx).2
end
/-! ### Bytes -/
/-- A sealed piece's file tells its events, and is not too long. -/
def WB (q : Pc) (b : List UInt8) (es : List Ev) : Prop := WholeU unpackB q b es ∧ b.length ≤ 100 * es.length + 28
theorem wb_whole : ∀ q b es, WB q b es → WholeU unpackB q b es := fun _ _ _ h => h.1
theorem segB_len {n : Nat} (hn : n < 2 ^ 64) : ∀ {fs : List (List Ev)}, FrOk fs → (segB n fs).length ≤ 18 + 100 * fs.flatten.length
  | [], _ => by have := headB_len hn; simp [segB]; omega
  | f :: fs, h => by
    have h1 := segB_len hn (fs := fs) fun g hg => h g (by simp [hg])
    obtain ⟨f1, f2, -⟩ := h f (by simp)
    have h2 : (frmB f).length ≤ 41 * f.length + 9 := frameB_len sumB_len f f2
    simp only [segB, List.length_append, List.flatMap_cons, List.flatten_cons] at h1 ⊢
    omega
theorem seals_wb : SealsOk WB := fun q fs hf hd hc h0 h1 h2 => ⟨seals_wholeU unpackB q fs hf hd hc h0 h1 h2, by have := segB_len (n := q.first.toNat) (by omega) hf; omega⟩
theorem sum_sub (f : Str → Nat) : ∀ {l S : List Str}, l.Nodup → (∀ x ∈ l, x ∈ S) → (l.map f).sum ≤ (S.map f).sum
  | [], _, _, _ => by simp
  | x :: l, S, hn, hs => by
    have hn' := List.nodup_cons.1 hn
    have hx := hs x (by simp)
    have h1 := sum_sub f (l := l) (S := S.erase x) hn'.2 fun y hy => by
      have hne : y ≠ x := fun hc => hn'.1 (hc ▸ hy)
      exact (List.mem_erase_of_ne hne).2 (hs y (by simp [hy]))
    have h2 := ((List.perm_cons_erase hx).map f).sum_nat
    rw [h2]
    simp only [List.map_cons, List.sum_cons]
    omega
section
variable {Wh : Pc → List UInt8 → List Ev → Prop} {F : List (Str × DFile)} {l A : List Pc} {p : Pc} {old all es : List Ev} {L : Lg} {d : Dsk}
theorem sealed_len : ∀ {A : List Pc} {es : List Ev}, sealedF WB F A es → (A.map fun q => (fileOf F q.name).bytes.length).sum ≤ 100 * es.length + 28 * A.length
  | [], _, h => by simp
  | q :: A, es, ⟨b, e1, e2, h1, h2, h3, h4⟩ => by
    have := sealed_len h4
    have hb := h2.2
    subst h3
    simp only [List.map_cons, List.sum_cons, List.length_cons, List.length_append, h1]
    omega
theorem KInv.used (h : KInv WB F L all) (hs : ∀ x, x ∈ namesF F → x ∈ staysOf L.l) (hn : all.length < 2 ^ 60) : usedF F ≤ 6227 + 100 * all.length + 28 * L.l.length := by
  obtain ⟨A, p, old, fs, m, h⟩ := h
  have hb := right_bound h.right p (by simp)
  rw [usedF_names h.nd]
  refine Nat.le_trans (sum_sub _ h.nd hs) ?_
  have h1 := sealed_len h.old_
  have h2 := segB_len (n := p.first.toNat) (by omega) h.fr
  have hR := (rightL_iff A p).2 h.right
  have h3 := manifestB_len hR
  rw [← h.l] at h3
  have hall := h.all_
  have hl := h.l
  unfold staysOf
  rw [hall, List.length_append]
  simp only [List.map_cons, List.sum_cons, h.man]
  rw [hl] at h3 ⊢
  simp only [List.map_append, List.map_cons, List.map_nil, List.sum_append, List.sum_cons, List.sum_nil, h.open_, List.map_map, List.length_append, List.length_cons, List.length_nil]
  have h1' : (List.map ((fun x => (fileOf F x).bytes.length) ∘ Pc.name) A).sum ≤ 100 * old.length + 28 * A.length := h1
  omega
theorem nodup_len : ∀ {l S : List Str}, l.Nodup → (∀ x ∈ l, x ∈ S) → l.length ≤ S.length := fun {l S} hn hs => by
  have := sum_sub (fun _ => 1) hn hs
  have e : ∀ l : List Str, (l.map fun _ => 1).sum = l.length := fun l => by
    induction l with
    | nil => rfl
    | cons x l ih => rw [List.map_cons, List.sum_cons, ih, List.length_cons]; omega
  rwa [e, e] at this
theorem KInv.count (h : KInv Wh F L all) (hs : ∀ x, x ∈ namesF F → x ∈ staysOf L.l) : F.length ≤ L.l.length + 1 := by
  obtain ⟨A, p, old, fs, m, h⟩ := h
  have := nodup_len h.nd hs
  simpa [namesF, staysOf] using this
end
end Go.Proofs.YtjapijndljknnaaGreatDoor

/-
  Program-independent: a drawn region by a table: what each operation's slot holds behind it. However many orders there are, each operation is reckoned once, from the few slots that it reads.
-/
namespace Go.Proofs.YtjapijndljknnaaGreatDoor
open Go Go.RowKit Go.Sort
set_option maxRecDepth 100000
/-- What a slot holds: it stays so while only new blocks are made. -/
structure Ent where
  p : Value → World → Prop
  m : ∀ v w w', p v w → Nw w w' → p v w'
def isV (V : Value) : Ent := ⟨fun v _ => v = V, fun _ _ _ h _ => h⟩
def anyV : Ent := ⟨fun _ _ => True, fun _ _ _ h _ => h⟩
def got (tab : List Ent) (i : Nat) : Ent := tab[i]?.getD anyV
section
variable {P : Program} {L lit : List Oper} {o : Oper} {a A0 : Act} {w w5 : World} {R : Value → World → Prop} {dst : List Nat} {i : Nat}
/-- What an operation does: it yields a value, in a world, of which R holds. -/
def OpOk (P : Program) (L : List Oper) (o : Oper) (a : Act) (w : World) (R : Value → World → Prop) : Prop :=
  (Region.wanted o (yielded L.toArray a.tmps) = false ∧ R undef w) ∨
  (Region.wanted o (yielded L.toArray a.tmps) = true ∧ ((∃ v w', (execOp a.eval o).run P w = .ok (.value v) w' ∧ R v w') ∨ ∃ f args, (execOp a.eval o).run P w = .ok (.enter f args) w ∧ Calls P f args w fun e w' => ∃ v, e = .returned v ∧ R v w'))
theorem OpOk.wp {Q : Exit → Act → World → Prop} {K : Act → World → Prop} {d : Nat} (ho : L[i]? = some o) (hd : o.dst = some d) (h : OpOk P L o a w R) (hK : ∀ v w', R v w' → K (a.put (some d) v) w') : wpOp P L.toArray Q i K a w := by
  simp only [wpOp, at_list ho]
  rcases h with ⟨hw, h⟩ | ⟨hw, ⟨v, w', hr, h⟩ | ⟨f, args, hr, hc⟩⟩
  · rw [if_neg (by rw [hw]; simp), hd]
    exact hK _ _ h
  · rw [if_pos hw]
    refine .inl ?_
    unfold Oper.wp
    rw [hr]
    simp only [Oper.upon]
    rw [hd]
    exact hK _ _ h
  · rw [if_pos hw]
    refine .inl ?_
    unfold Oper.wp
    rw [hr]
    simp only [Oper.upon]
    refine hc.mono fun e w' he => ?_
    obtain ⟨v, rfl, h⟩ := he
    rw [hd]
    exact hK _ _ h
theorem OpOk.skip (h : Region.wanted o (yielded L.toArray a.tmps) = false) (hR : R undef w) : OpOk P L o a w R := .inl ⟨h, hR⟩
theorem OpOk.val (v : Value) (h : Region.wanted o (yielded L.toArray a.tmps) = true) (fs : List (Nat × Value)) (hf : ∀ x ∈ fs, a.tmps[x.1]? = some x.2)
    (hv : ∀ ρ : Operand → Value, (∀ x ∈ fs, ρ (.tmp x.1) = x.2) → Consts ρ → (execOp ρ o).run P w = .ok (.value v) w) (hR : R v w) : OpOk P L o a w R :=
  .inr ⟨h, .inl ⟨v, w, hv _ (fun x hx => eval_of (hf x hx)) ⟨fun _ => rfl, fun _ => rfl⟩, hR⟩⟩
/-- .. that makes blocks. -/
theorem OpOk.made (v : Value) (w' : World) (h : Region.wanted o (yielded L.toArray a.tmps) = true) (fs : List (Nat × Value)) (hf : ∀ x ∈ fs, a.tmps[x.1]? = some x.2)
    (hv : ∀ ρ : Operand → Value, (∀ x ∈ fs, ρ (.tmp x.1) = x.2) → Consts ρ → (execOp ρ o).run P w = .ok (.value v) w') (hR : R v w') : OpOk P L o a w R :=
  .inr ⟨h, .inl ⟨v, w', hv _ (fun x hx => eval_of (hf x hx)) ⟨fun _ => rfl, fun _ => rfl⟩, hR⟩⟩
theorem OpOk.call {f : FuncId} {args : Array Value} {R' : Ending → World → Prop} (h : Region.wanted o (yielded L.toArray a.tmps) = true) (fs : List (Nat × Value)) (hf : ∀ x ∈ fs, a.tmps[x.1]? = some x.2)
    (hv : ∀ ρ : Operand → Value, (∀ x ∈ fs, ρ (.tmp x.1) = x.2) → Consts ρ → (execOp ρ o).run P w = .ok (.enter f args) w) (hc : Calls P f args w R') (hR : ∀ e w', R' e w' → ∃ v, e = .returned v ∧ R v w') : OpOk P L o a w R :=
  .inr ⟨h, .inr ⟨f, args, hv _ (fun x hx => eval_of (hf x hx)) ⟨fun _ => rfl, fun _ => rfl⟩, hc.mono hR⟩⟩
/-- A drawn region by its table. -/
theorem wp_region_tab {id : Nat} {Q : Exit → Act → World → Prop} (dst : List Nat) (tab : List Ent) (hm : P.follows .mixedOrders = true) (hb : Region.backB lit.toArray = true) (hdst : lit.map Oper.dst = dst.map some) (hnd : dst.Nodup) (hin : ∀ d ∈ dst, d < A0.tmps.size)
    (hs : ∀ L : List Oper, L.map Oper.dst = dst.map some → EachO (fun i o => ∀ a w, Nw w5 w → (∀ t v, dst.contains t = false → A0.tmps[t]? = some v → a.tmps[t]? = some v) → (∀ j d, waits o j = true → dst[j]? = some d → ∃ v, a.tmps[d]? = some v ∧ (got tab j).p v w) →
      OpOk P L o a w fun v w' => Nw w w' ∧ (got tab i).p v w') 0 lit)
    (he : ∀ a w, Nw w5 w → a.tmps.size = A0.tmps.size → a.defers = A0.defers → (∀ t, dst.contains t = false → a.tmps[t]? = A0.tmps[t]?) → (∀ i d, dst[i]? = some d → ∃ v, a.tmps[d]? = some v ∧ (got tab i).p v w) → Q .normal a w) :
    (Code.region id lit.toArray true).wp P Q A0 w5 := by
  have hlen : lit.length = dst.length := by have := congrArg List.length hdst; simpa using this
  refine wp_region_any hm (wpAny_inv (fun D a w => Nw w5 w ∧ a.tmps.size = A0.tmps.size ∧ a.defers = A0.defers ∧ (∀ t, dst.contains t = false → a.tmps[t]? = A0.tmps[t]?) ∧ ∀ i d, D i → dst[i]? = some d → ∃ v, a.tmps[d]? = some v ∧ (got tab i).p v w) hb
    (fun D i o ho h1 h2 a w h3 => ?_) (fun D a w h1 h2 => ?_) _ _ (fun _ => False) A0 w5.drew (by simp) (fun i hi => ?_) (by simp) ?_)
  · obtain ⟨k1, k2, k3, k4, k5⟩ := h3
    have ho' : lit[i]? = some o := by simpa using ho
    have hd : ∃ d, dst[i]? = some d ∧ o.dst = some d := by
      have h : (lit.map Oper.dst)[i]? = (dst.map some)[i]? := by rw [hdst]
      rw [List.getElem?_map, List.getElem?_map, ho'] at h
      cases h2 : dst[i]? with
      | none => rw [h2] at h; cases h
      | some d => rw [h2] at h; exact ⟨d, rfl, by simpa using h⟩
    obtain ⟨d, hd, hod⟩ := hd
    have hdm : d ∈ dst := List.mem_of_getElem? hd
    have hE := of_each (hs lit hdst) i o ho' a w k1 (fun t v ht hv => by rw [k4 t ht]; exact hv) (fun j dj hj hdj => k5 j dj (waits_of h1 j hj) hdj)
    refine hE.wp ho' hod fun v w' ⟨n, hp⟩ => ⟨k1.trans n, ?_, ?_, ?_, ?_⟩
    · simp [Act.put, k2]
    · simp [Act.put, k3]
    · intro t ht
      have hne : d ≠ t := fun e => by
        subst e
        have : dst.contains d = true := by simpa using hdm
        rw [this] at ht
        cases ht
      rw [put_at hne]
      exact k4 t ht
    · intro j dj hj hdj
      by_cases hji : j = i
      · subst hji
        rw [hd] at hdj
        cases hdj
        have hlt : d < a.tmps.size := by rw [k2]; exact hin d hdm
        exact ⟨v, by simp [Act.put, hlt], hp⟩
      · have hne : d ≠ dj := fun e => by
          subst e
          obtain ⟨p1, q1⟩ := List.getElem?_eq_some_iff.1 hd
          obtain ⟨p2, q2⟩ := List.getElem?_eq_some_iff.1 hdj
          exact hji ((List.getElem_inj hnd).1 (q2.trans q1.symm))
        obtain ⟨u, e1, e2⟩ := k5 j dj (hj.resolve_left hji) hdj
        exact ⟨u, by rw [put_at hne]; exact e1, (got tab j).m _ _ _ e2 n⟩
  · obtain ⟨k1, k2, k3, k4, k5⟩ := h2
    refine he a w k1 k2 k3 k4 fun i d hd => k5 i d (h1 i ?_) hd
    obtain ⟨p1, -⟩ := List.getElem?_eq_some_iff.1 hd
    simp only [List.size_toArray]
    omega
  · rw [getD_replicate_false]; simp
  · exact ⟨(Nw.refl w5).drew, rfl, rfl, fun _ _ => rfl, fun _ _ h => h.elim⟩
/-- The frame behind a region, written out. -/
def laid (dst : List Nat) (l : List Value) (S : Nat → Value) : List Value := l.zipIdx.map fun x => bif dst.contains x.2 then S x.2 else x.1
theorem frame_lit {l : List Value} (hA : A0 = ⟨l.toArray, []⟩) (hsz : a.tmps.size = A0.tmps.size) (hdf : a.defers = A0.defers) (old : ∀ t, dst.contains t = false → a.tmps[t]? = A0.tmps[t]?) {l' : List Value} (hl : laid dst l (fun t => (a.tmps[t]?).getD undef) = l') : a = ⟨l'.toArray, []⟩ := by
  subst hA hl
  obtain ⟨tm, df⟩ := a
  simp only at hsz hdf old ⊢
  subst hdf
  congr 1
  apply Array.ext_getElem?
  intro t
  simp only [laid]
  by_cases ht : t < l.length
  · have ht' : t < tm.size := by rw [hsz]; simpa using ht
    have e : ((l.zipIdx.map fun x => bif dst.contains x.2 then tm[x.2]?.getD undef else x.1).toArray)[t]? = some (bif dst.contains t then tm[t]?.getD undef else l[t]) := by
      rw [List.getElem?_toArray, List.getElem?_map, List.getElem?_zipIdx, List.getElem?_eq_getElem ht]
      simp
    rw [e]
    cases hc : dst.contains t with
    | true => simp [ht']
    | false =>
      have := old t hc
      rw [this]
      simp [ht]
  · rw [Array.getElem?_eq_none (by rw [hsz]; simpa using ht), Array.getElem?_eq_none (by simpa [laid] using ht)]
theorem tab_frame {Q : Exit → Act → World → Prop} {a b : Act} {w : World} (h : a = b) (h' : Q .normal b w) : Q .normal a w := h ▸ h'
end
theorem name_act {P : Program} {c : Code} {Q : Exit → Act → World → Prop} {a : Act} {w : World} (h : ∀ B : Act, B = a → Code.wp P c Q B w) : Code.wp P c Q a w := h a rfl
end Go.Proofs.YtjapijndljknnaaGreatDoor
