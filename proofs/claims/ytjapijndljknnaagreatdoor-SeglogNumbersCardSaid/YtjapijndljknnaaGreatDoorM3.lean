/-
  Texts merged by a program of this claim's: Disk, DiskA, BytesPlain, EventPlain, DiskB.
-/
import Derived.Test.YtjapijndljknnaaGreatDoorM2
import Derived.Test.YtjapijndljknnaaGreatDoorM1
import Derived.Test.YtjapijndljknnaaGreatDoorChecked
import Derived.WalkSpells
/-
  The disk in plain words (files in the order in which they were made), and how it lies in memory.
-/
namespace Go.Proofs.YtjapijndljknnaaGreatDoor
open Go Go.RowKit

/-! ### Plain words -/
structure DFile where
  bytes : List UInt8
  synced : Nat
structure Dsk where
  most : Int
  files : List (Str × DFile)
  arm : Int
  down : Bool

def setF : List (Str × DFile) → Str → DFile → List (Str × DFile)
  | [], n, f => [(n, f)]
  | (k, g) :: L, n, f => if k = n then (n, f) :: L else (k, g) :: setF L n f
def delF : List (Str × DFile) → Str → List (Str × DFile)
  | [], _ => []
  | (k, g) :: L, n => if k = n then L else (k, g) :: delF L n
def getF : List (Str × DFile) → Str → Option DFile
  | [], _ => none
  | (k, g) :: L, n => if k = n then some g else getF L n
def namesF (L : List (Str × DFile)) : List Str := L.map Prod.fst
def usedF (L : List (Str × DFile)) : Nat := (L.map fun x => x.2.bytes.length).sum

def okChar (c : UInt8) : Bool := (97 ≤ c && c ≤ 122) || (48 ≤ c && c ≤ 57) || c == 46 || c == 45
def okName (n : Str) : Bool := !n.isEmpty && decide (n.length ≤ 40) && n.all okChar

/-- One operation: what is in its way (0: nothing), what it does. -/
def Dsk.op (d : Dsk) (may : Int) (act : List (Str × DFile) → List (Str × DFile)) : Dsk × Int :=
  if d.down then (d, 15) else if may ≠ 0 then (d, may) else if d.arm = 0 then ({ d with arm := -1, down := true }, 15)
  else ({ d with files := act d.files, arm := max (d.arm - 1) (-1) }, 0)

def Dsk.there (d : Dsk) (n : Str) : Int := if n ∈ namesF d.files then 0 else 13
def fileOf (L : List (Str × DFile)) (n : Str) : DFile := (getF L n).getD ⟨[], 0⟩
def Dsk.mayAppend (d : Dsk) (n : Str) (l : List UInt8) : Int :=
  if okName n then (if d.most < (usedF d.files + l.length : Nat) ∨ (n ∉ namesF d.files ∧ 200 ≤ d.files.length) then 5 else 0) else 13
def Dsk.append (d : Dsk) (n : Str) (l : List UInt8) : Dsk × Int :=
  d.op (d.mayAppend n l) fun L => setF L n ⟨(fileOf L n).bytes ++ l, (fileOf L n).synced⟩
def Dsk.sync (d : Dsk) (n : Str) : Dsk × Int :=
  d.op (d.there n) fun L => setF L n ⟨(fileOf L n).bytes, (fileOf L n).bytes.length⟩
def Dsk.rename (d : Dsk) (a b : Str) : Dsk × Int :=
  d.op (if okName b then d.there a else 13) fun L => setF (delF L a) b (fileOf L a)
def Dsk.remove (d : Dsk) (n : Str) : Dsk × Int := d.op (d.there n) fun L => delF L n
def Dsk.mayCut (d : Dsk) (n : Str) (k : Int) : Int :=
  match getF d.files n with
  | none => 13
  | some f => if k < 0 ∨ (f.bytes.length : Int) < k then 2 else 0
def Dsk.cut (d : Dsk) (n : Str) (k : Int) : Dsk × Int :=
  d.op (d.mayCut n k) fun L => setF L n ⟨(fileOf L n).bytes.take k.toNat, k.toNat⟩
def Dsk.read (d : Dsk) (n : Str) : List UInt8 × Int :=
  if d.down then ([], 15) else match getF d.files n with
  | none => ([], 13)
  | some f => (f.bytes, 0)
def Dsk.list (d : Dsk) : List Str := (namesF d.files).mergeSort fun x y => decide (x ≤ y)
def Dsk.armed (d : Dsk) (n : Int) : Dsk := if d.down then d else { d with arm := max n 0 }
/-- What a crash leaves of a file. -/
def leaves (f : DFile) (keep : Int) : DFile :=
  let k := f.synced + min keep.toNat (f.bytes.length - f.synced)
  ⟨f.bytes.take k, k⟩
def crashF : List Str → List Int → List (Str × DFile) → List (Str × DFile)
  | [], _, L => L
  | n :: ns, ks, L => crashF ns ks.tail (setF L n (leaves (fileOf L n) (ks.headD 0)))
def Dsk.crash (d : Dsk) (ks : List Int) : Dsk := { d with files := crashF d.list ks d.files, arm := -1, down := false }

/-- What holds of every disk that was made. -/
structure Dsk.Ok (d : Dsk) : Prop where
  most0 : 0 ≤ d.most
  most1 : d.most ≤ 16777216
  arm0 : -1 ≤ d.arm
  arm1 : d.arm ≤ 9223372036854775807
  names : (namesF d.files).Nodup
  named : ∀ n ∈ namesF d.files, okName n = true
  few : d.files.length ≤ 200
  used : (usedF d.files : Int) ≤ d.most
  synced : ∀ x ∈ d.files, x.2.synced ≤ x.2.bytes.length

section
variable {L A B : List (Str × DFile)} {n : Str} {f g : DFile}
theorem setF_miss (h : n ∉ namesF L) : setF L n f = L ++ [(n, f)] := by
  induction L with
  | nil => rfl
  | cons x L ih =>
    obtain ⟨k, g⟩ := x
    simp only [namesF, List.map_cons, List.mem_cons, not_or] at h
    simp [setF, Ne.symm h.1, ih h.2]
theorem setF_hit (h : n ∉ namesF A) : setF (A ++ (n, g) :: B) n f = A ++ (n, f) :: B := by
  induction A with
  | nil => simp [setF]
  | cons x A ih =>
    obtain ⟨k, g'⟩ := x
    simp only [namesF, List.map_cons, List.mem_cons, not_or] at h
    simp [setF, Ne.symm h.1, ih h.2]
theorem delF_hit (h : n ∉ namesF A) : delF (A ++ (n, g) :: B) n = A ++ B := by
  induction A with
  | nil => simp [delF]
  | cons x A ih =>
    obtain ⟨k, g'⟩ := x
    simp only [namesF, List.map_cons, List.mem_cons, not_or] at h
    simp [delF, Ne.symm h.1, ih h.2]
theorem getF_hit (h : n ∉ namesF A) : getF (A ++ (n, g) :: B) n = some g := by
  induction A with
  | nil => simp [getF]
  | cons x A ih =>
    obtain ⟨k, g'⟩ := x
    simp only [namesF, List.map_cons, List.mem_cons, not_or] at h
    simp [getF, Ne.symm h.1, ih h.2]
theorem getF_miss (h : n ∉ namesF L) : getF L n = none := by
  induction L with
  | nil => rfl
  | cons x L ih =>
    obtain ⟨k, g⟩ := x
    simp only [namesF, List.map_cons, List.mem_cons, not_or] at h
    simp [getF, Ne.symm h.1, ih h.2]
end

/-! ### In memory -/
def u8 (c : UInt8) : Value := .int .u8 c.toNat

/-- .. of bytes. -/
abbrev Bs (w : World) (v : Value) (l : List UInt8) : Prop := Rd u8 w v l

/-- .. at the head of a row of its own. -/
abbrev Own (w : World) (v : Value) (l : List UInt8) : Prop := RowF u8 5 w v l
theorem u8_one (c : UInt8) : (u8 c).oneCell' = true := rfl

/-- One file as it lies in memory. -/
structure FE where
  name : Str
  file : DFile
  fb : Nat
  sl : Value
  born : Nat
def FE.en (f : FE) : En := ⟨f.name, .pointer (some ⟨f.fb, 0, none⟩), f.born⟩
def FE.nf (f : FE) : Str × DFile := (f.name, f.file)
def FE.blocks (f : FE) : List Nat := f.fb :: f.sl.ownBlock.toList
structure FE.At (w : World) (f : FE) : Prop where
  blk : w.heap[f.fb]? = some (.cells #[f.sl, .int .i64 f.file.synced] 99 (0, 0))
  own : Own w f.sl f.file.bytes

def dskBlocks (b m : Nat) (fs : List FE) : List Nat := b :: m :: fs.flatMap FE.blocks

structure DiskAt (w : World) (b m : Nat) (d : Dsk) (fs : List FE) : Prop where
  hdr : w.heap[b]? = some (.cells #[.map (some m), .int .i64 d.most, .int .i64 d.arm, .bool d.down] 94 (0, 0))
  map : ∃ clock, w.heap[m]? = some (.map (ents (fs.map FE.en)) clock) ∧ ∀ f ∈ fs, f.born < clock
  files : d.files = fs.map FE.nf
  file : ∀ f ∈ fs, f.At w
  nodup : (dskBlocks b m fs).Nodup
  born : (fs.map FE.born).Nodup
  ok : d.Ok

theorem FE.At.keep {w w' : World} {f : FE} (h : f.At w) (hb : ∀ k ∈ f.blocks, w'.heap[k]? = w.heap[k]?) : f.At w' :=
  ⟨by rw [hb f.fb (by simp [FE.blocks])]; exact h.blk, h.own.keep fun g hg => hb g (by simp [FE.blocks, hg])⟩

theorem DiskAt.keep {w w' : World} {b m : Nat} {d : Dsk} {fs : List FE} (h : DiskAt w b m d fs) (hb : ∀ k ∈ dskBlocks b m fs, w'.heap[k]? = w.heap[k]?) : DiskAt w' b m d fs := by
  obtain ⟨clock, h1, h2⟩ := h.map
  exact ⟨by rw [hb b (by simp [dskBlocks])]; exact h.hdr, ⟨clock, by rw [hb m (by simp [dskBlocks])]; exact h1, h2⟩, h.files,
    fun f hf => (h.file f hf).keep fun k hk => hb k (by simp only [dskBlocks, List.mem_cons, List.mem_flatMap]; exact .inr (.inr ⟨f, hf, hk⟩)), h.nodup, h.born, h.ok⟩

theorem DiskAt.lt {w : World} {b m : Nat} {d : Dsk} {fs : List FE} (h : DiskAt w b m d fs) : ∀ k ∈ dskBlocks b m fs, k < w.heap.size := by
  intro k hk
  simp only [dskBlocks, List.mem_cons, List.mem_flatMap] at hk
  rcases hk with rfl | rfl | ⟨f, hf, hk⟩
  · exact lt_of_block h.hdr
  · obtain ⟨clock, h1, _⟩ := h.map; exact lt_of_block h1
  · simp only [FE.blocks, List.mem_cons, Option.mem_toList] at hk
    rcases hk with rfl | hk
    · exact lt_of_block (h.file f hf).blk
    · exact (h.file f hf).own.lt _ hk

/-- The disk, and the blocks that are its own. -/
def DiskIn (w : World) (b : Nat) (d : Dsk) (S : Nat → Prop) : Prop := ∃ m fs, DiskAt w b m d fs ∧ ∀ k, S k ↔ k ∈ dskBlocks b m fs

theorem DiskIn.keep {S T : Nat → Prop} {w w' : World} {b : Nat} {d : Dsk} (h : DiskIn w b d S) (ho : Only T w w') (hd : ∀ k, S k → ¬ T k) : DiskIn w' b d S := by
  obtain ⟨m, fs, h1, h2⟩ := h
  exact ⟨m, fs, h1.keep fun k hk => ho.block k (h1.lt k hk) (hd k ((h2 k).2 hk)), h2⟩
theorem DiskIn.nw {S : Nat → Prop} {w w' : World} {b : Nat} {d : Dsk} (h : DiskIn w b d S) (ho : Nw w w') : DiskIn w' b d S := h.keep ho (fun _ _ hf => hf)
theorem DiskIn.lt {S : Nat → Prop} {w : World} {b : Nat} {d : Dsk} (h : DiskIn w b d S) : ∀ k, S k → k < w.heap.size := by
  obtain ⟨m, fs, h1, h2⟩ := h
  exact fun k hk => h1.lt k ((h2 k).1 hk)
theorem DiskIn.ok {S : Nat → Prop} {w : World} {b : Nat} {d : Dsk} (h : DiskIn w b d S) : d.Ok := by
  obtain ⟨m, fs, h1, h2⟩ := h
  exact h1.ok

/-- From one disk to the next: what was turned is the disk's own; what is its own now was, or is new. -/
def DiskTo (S : Nat → Prop) (w w' : World) (b : Nat) (d' : Dsk) : Prop := ∃ S' : Nat → Prop, DiskIn w' b d' S' ∧ Only S w w' ∧ ∀ k, S' k → S k ∨ w.heap.size ≤ k
end Go.Proofs.YtjapijndljknnaaGreatDoor

/-
  The disk's small functions, walked.
-/
namespace Go.Proofs.YtjapijndljknnaaGreatDoor
open Go Go.RowKit
set_option maxRecDepth 100000
set_option maxHeartbeats 400000

theorem ret1 {k : IntKind} {a b : Int} (h : a = b) : Ending.returned (.int k a) = .returned (.int k b) := by rw [h]
theorem retB {a b : Bool} (h : a = b) : Ending.returned (.bool a) = .returned (.bool b) := by rw [h]

theorem eqlMap (w : World) (r : Option Nat) : (binOp .eql 92 (.map r) (.map none)).run Tryz.prog w = .ok (.bool r.isNone) w :=
  Go.run_eql_map_nil w _ _ _ r Tryz.underlying92

/-- The cells of the head. -/
theorem hdr_cells {w : World} {b m : Nat} {d : Dsk} (h : w.heap[b]? = some (.cells #[.map (some m), .int .i64 d.most, .int .i64 d.arm, .bool d.down] 94 (0, 0))) :
    w.cell? ⟨b, 0, none⟩ = some (.map (some m)) ∧ w.cell? ⟨b, 1, none⟩ = some (.int .i64 d.most) ∧ w.cell? ⟨b, 2, none⟩ = some (.int .i64 d.arm) ∧ w.cell? ⟨b, 3, none⟩ = some (.bool d.down) ∧
    ∀ i, w.frozen? ⟨b, i, none⟩ = false := by
  simp [World.cell?, World.frozen?, h]

theorem none_nil (w : World) : Calls Tryz.prog 54 #[.pointer none] w fun e w' => e = .returned (.bool true) ∧ w = w' := by
  go_enter Tryz.func54, Tryz.ntmps54
  go_wp2
  go_ret
  exact ⟨rfl, rfl⟩
theorem none_zero (w : World) (b : Nat) (h0 : w.cell? ⟨b, 0, none⟩ = some (.map none)) : Calls Tryz.prog 54 #[.pointer (some ⟨b, 0, none⟩)] w fun e w' => e = .returned (.bool true) ∧ w = w' := by
  have q := eqlMap w none
  go_enter Tryz.func54, Tryz.ntmps54
  go_wp2
  go_ret
  exact ⟨rfl, rfl⟩
theorem none_ok (w : World) (b m : Nat) (h0 : w.cell? ⟨b, 0, none⟩ = some (.map (some m))) : Calls Tryz.prog 54 #[.pointer (some ⟨b, 0, none⟩)] w fun e w' => e = .returned (.bool false) ∧ w = w' := by
  have q := eqlMap w (some m)
  go_enter Tryz.func54, Tryz.ntmps54
  go_wp2
  go_ret
  exact ⟨rfl, rfl⟩

theorem up_ok (w : World) (b m : Nat) (dn : Bool) (h0 : w.cell? ⟨b, 0, none⟩ = some (.map (some m))) (h3 : w.cell? ⟨b, 3, none⟩ = some (.bool dn)) :
    Calls Tryz.prog 56 #[.pointer (some ⟨b, 0, none⟩)] w fun e w' => e = .returned (.int .i64 (if dn then 15 else 0)) ∧ w = w' := by
  cases dn
  all_goals
    go_enter Tryz.func56, Tryz.ntmps56
    go_wp2_with (go_at_call 54; refine (none_ok _ b m h0).mono ?_; rintro e w' ⟨rfl, rfl⟩)
    go_ret
    exact ⟨rfl, rfl⟩
theorem up_nil (w : World) : Calls Tryz.prog 56 #[.pointer none] w fun e w' => e = .returned (.int .i64 1) ∧ w = w' := by
  go_enter Tryz.func56, Tryz.ntmps56
  go_wp2_with (go_at_call 54; refine (none_nil _).mono ?_; rintro e w' ⟨rfl, rfl⟩)
  go_ret
  exact ⟨rfl, rfl⟩
theorem up_zero (w : World) (b : Nat) (h0 : w.cell? ⟨b, 0, none⟩ = some (.map none)) : Calls Tryz.prog 56 #[.pointer (some ⟨b, 0, none⟩)] w fun e w' => e = .returned (.int .i64 1) ∧ w = w' := by
  go_enter Tryz.func56, Tryz.ntmps56
  go_wp2_with (go_at_call 54; refine (none_zero _ b h0).mono ?_; rintro e w' ⟨rfl, rfl⟩)
  go_ret
  exact ⟨rfl, rfl⟩

theorem Down_ok {w : World} {b : Nat} {d : Dsk} {S : Nat → Prop} (h : DiskIn w b d S) :
    Calls Tryz.prog 48 #[.pointer (some ⟨b, 0, none⟩)] w fun e w' => e = .returned (.bool d.down) ∧ w = w' := by
  obtain ⟨m, fs, hD, -⟩ := h
  obtain ⟨c0, c1, c2, c3, -⟩ := hdr_cells hD.hdr
  clear hD
  go_enter Tryz.func48, Tryz.ntmps48
  go_wp2_with (go_at_call 54; refine (none_ok _ b m c0).mono ?_; rintro e w' ⟨rfl, rfl⟩)
  go_ret
  exact ⟨rfl, rfl⟩

/-- The lookup of a name. -/
def ptrOf (fs : List FE) (n : Str) : Option Addr := (fs.find? (·.name == n)).map fun f => ⟨f.fb, 0, none⟩

theorem zeroPtr (w : World) : (zeroValue 100).run Tryz.prog w = .ok (.pointer none) w := by kernel_rfl

theorem look_file {w : World} {m clock : Nat} {fs : List FE} (hb : w.heap[m]? = some (.map (ents (fs.map FE.en)) clock)) (n : Str) :
    (Instr.lookup 92 (.map (some m)) (.string ⟨n.toArray⟩) false).run Tryz.prog w = .ok (.pointer (ptrOf fs n)) w := by
  rcases split_key n (fs.map FE.en) with hn | ⟨A, e, B, he, hk, hA⟩
  · have hp : ptrOf fs n = none := by
      simp only [ptrOf, Option.map_eq_none_iff, List.find?_eq_none]
      intro f hf hc
      exact hn (by simp only [List.map_map, List.mem_map]; exact ⟨f, hf, by simpa [FE.en] using hc⟩)
    rw [hp]
    exact run_look_miss Tryz.underlying92 Tryz.underlying9 (zeroPtr w) hb hn
  · have hb' := hb
    rw [he] at hb'
    rw [run_look_hit Tryz.underlying92 Tryz.underlying9 hb' hk hA]
    obtain ⟨A', B1, rfl, rfl, h2⟩ := List.map_eq_append_iff.1 he
    obtain ⟨f, B', rfl, rfl, rfl⟩ := List.map_eq_cons_iff.1 h2
    have : (A' ++ f :: B').find? (·.name == n) = some f := by
      rw [List.find?_append]
      have hn : A'.find? (·.name == n) = none := by
        rw [List.find?_eq_none]
        intro g hg hc
        exact hA (by simp only [List.map_map, List.mem_map]; exact ⟨g, hg, by simpa [FE.en] using hc⟩)
      rw [hn]
      simp [show f.name = n from hk]
    simp [ptrOf, this, FE.en]
end Go.Proofs.YtjapijndljknnaaGreatDoor

/-
  Numbers, sums, events, frames as bytes: plain words (packages bytes, event, segment of the program): no program in sight.
-/
namespace Go.Proofs.YtjapijndljknnaaGreatDoor

/-! ### Numbers -/
def uintB (n : Nat) : List UInt8 := if h : n < 128 then [UInt8.ofNat n] else UInt8.ofNat (n % 128 + 128) :: uintB (n / 128)
termination_by n
decreasing_by omega
theorem uintB_small {n : Nat} (h : n < 128) : uintB n = [UInt8.ofNat n] := by rw [uintB, dif_pos h]
theorem uintB_big {n : Nat} (h : ¬ n < 128) : uintB n = UInt8.ofNat (n % 128 + 128) :: uintB (n / 128) := by rw [uintB, dif_neg h]
/-- How a number is read: the value, and how many bytes it has (0: they may be the begin of one; below 0: they are none). -/
def numF : Nat → Nat → List UInt8 → Nat × Int
  | _, _, [] => (0, 0)
  | i, acc, c :: l =>
    if i = 9 ∧ 1 < c.toNat then (0, -1)
    else if 128 ≤ c.toNat then numF (i + 1) (acc + c.toNat % 128 * 2 ^ (7 * i)) l
    else if c.toNat = 0 ∧ 0 < i then (0, -1)
    else (acc + c.toNat % 128 * 2 ^ (7 * i), (i : Int) + 1)
theorem pow7 (i : Nat) : (2 : Nat) ^ (7 * (i + 1)) = 128 * 2 ^ (7 * i) := by rw [Nat.mul_add, Nat.pow_add, Nat.mul_comm]
theorem pow_pos7 (i : Nat) : 0 < (2 : Nat) ^ (7 * i) := Nat.pow_pos (by decide)
theorem numF_uintB (rest : List UInt8) : ∀ (m i acc : Nat), i ≤ 9 → m * 2 ^ (7 * i) < 2 ^ 64 → (0 < i → 0 < m) → numF i acc (uintB m ++ rest) = (acc + m * 2 ^ (7 * i), (i : Int) + (uintB m).length) := by
  intro m
  induction m using Nat.strongRecOn with
  | ind m ih =>
    intro i acc hi hm h0
    by_cases hs : m < 128
    · rw [uintB_small hs]
      have e : (UInt8.ofNat m).toNat = m := by simp; omega
      have h9 : ¬ (i = 9 ∧ 1 < m) := by
        rintro ⟨rfl, h1⟩
        have : 2 * 2 ^ (7 * 9) ≤ m * 2 ^ (7 * 9) := Nat.mul_le_mul_right _ h1
        have e2 : (2 : Nat) * 2 ^ (7 * 9) = 2 ^ 64 := by decide
        omega
      simp only [List.cons_append, List.nil_append, numF, e]
      rw [if_neg h9, if_neg (by omega), if_neg (by rintro ⟨rfl, h⟩; exact absurd (h0 h) (by omega)), Nat.mod_eq_of_lt hs]
      simp
    · rw [uintB_big hs]
      have e : (UInt8.ofNat (m % 128 + 128)).toNat = m % 128 + 128 := by simp; omega
      have h9 : ¬ i = 9 := by
        rintro rfl
        have : 128 * 2 ^ (7 * 9) ≤ m * 2 ^ (7 * 9) := Nat.mul_le_mul_right _ (by omega)
        have e2 : (2 : Nat) ^ 64 < 128 * 2 ^ (7 * 9) := by decide
        omega
      have hdm : m / 128 * 128 + m % 128 = m := by omega
      have hkey : acc + (m % 128 + 128) % 128 * 2 ^ (7 * i) + m / 128 * 2 ^ (7 * (i + 1)) = acc + m * 2 ^ (7 * i) := by
        rw [pow7, Nat.add_mod_right, Nat.mod_mod, Nat.add_assoc, ← Nat.mul_assoc, ← Nat.add_mul]
        congr 2; omega
      simp only [List.cons_append, numF, e]
      rw [if_neg (fun h => h9 h.1), if_pos (by omega), ih (m / 128) (by omega) (i + 1) _ (by omega) (by omega) (by omega), hkey]
      simp only [List.length_cons]
      congr 1
      omega
/-- A number that is cut short may be the begin of one. -/
theorem numF_cut : ∀ (m i acc k : Nat), i ≤ 9 → m * 2 ^ (7 * i) < 2 ^ 64 → k < (uintB m).length → numF i acc ((uintB m).take k) = (0, 0) := by
  intro m
  induction m using Nat.strongRecOn with
  | ind m ih =>
    intro i acc k hi hm hk
    by_cases hs : m < 128
    · rw [uintB_small hs] at hk ⊢
      obtain rfl : k = 0 := by simpa using hk
      rfl
    · rw [uintB_big hs] at hk ⊢
      cases k with
      | zero => rfl
      | succ k =>
        have e : (UInt8.ofNat (m % 128 + 128)).toNat = m % 128 + 128 := by simp; omega
        have h9 : ¬ i = 9 := by
          rintro rfl
          have : 128 * 2 ^ (7 * 9) ≤ m * 2 ^ (7 * 9) := Nat.mul_le_mul_right _ (by omega)
          have e2 : (2 : Nat) ^ 64 < 128 * 2 ^ (7 * 9) := by decide
          omega
        have hle : m / 128 * 2 ^ (7 * (i + 1)) ≤ m * 2 ^ (7 * i) := by
          rw [pow7, ← Nat.mul_assoc]
          exact Nat.mul_le_mul_right _ (by omega)
        simp only [List.take_succ_cons, numF, e]
        rw [if_neg (fun h => h9 h.1), if_pos (by omega), ih (m / 128) (by omega) (i + 1) _ k (by omega) (by omega) (by simpa using hk)]
theorem uintB_len (m : Nat) : ∀ k, 0 < k → m < 128 ^ k → (uintB m).length ≤ k := by
  induction m using Nat.strongRecOn with
  | ind m ih =>
    intro k hk hm
    by_cases hs : m < 128
    · rw [uintB_small hs]; exact hk
    · rw [uintB_big hs]
      cases k with
      | zero => omega
      | succ k =>
        have hk0 : 0 < k := by
          cases k with
          | zero => simp at hm; omega
          | succ k => omega
        have := ih (m / 128) (by omega) k hk0 (by rw [Nat.pow_succ] at hm; omega)
        simpa using this
theorem uintB_pos (m : Nat) : 0 < (uintB m).length := by
  by_cases hs : m < 128
  · rw [uintB_small hs]; simp
  · rw [uintB_big hs]; simp
/-- What the program's GetUint answers: the number, what follows, the error. -/
def getU (b : List UInt8) (at_ : Int) : Nat × Int × Int :=
  if at_ < 0 ∨ (b.length : Int) < at_ then (0, 0, 2)
  else if (numF 0 0 (b.drop at_.toNat)).2 = 0 then (0, 0, 11)
  else if (numF 0 0 (b.drop at_.toNat)).2 < 0 then (0, 0, 10)
  else ((numF 0 0 (b.drop at_.toNat)).1, at_ + (numF 0 0 (b.drop at_.toNat)).2, 0)
theorem getU_at (a rest : List UInt8) (m : Nat) (hm : m < 2 ^ 64) : getU (a ++ (uintB m ++ rest)) a.length = (m, (((a ++ uintB m).length : Nat) : Int), 0) := by
  have h := numF_uintB rest m 0 0 (by omega) (by simpa using hm) (by omega)
  simp only [Nat.mul_zero, Nat.pow_zero, Nat.mul_one, Nat.zero_add, Int.natCast_zero, Int.zero_add] at h
  have hp := uintB_pos m
  unfold getU
  rw [if_neg (by simp; omega)]
  simp only [Int.toNat_natCast, List.drop_left, h]
  rw [if_neg (by show ¬ ((uintB m).length : Int) = 0; omega), if_neg (by show ¬ ((uintB m).length : Int) < 0; omega)]
  simp

/-! ### Signed numbers -/
def zig (n : Int) : Nat := if 0 ≤ n then (2 * n).toNat else (-2 * n - 1).toNat
def zag (n : Nat) : Int := if n % 2 = 0 then (n / 2 : Nat) else -((n / 2 : Nat) : Int) - 1
theorem zag_zig (n : Int) : zag (zig n) = n := by
  unfold zig
  split
  · unfold zag
    rw [if_pos (by omega)]; omega
  · unfold zag
    rw [if_neg (by omega)]; omega
theorem zig_lt {n : Int} (h0 : -9223372036854775808 ≤ n) (h1 : n ≤ 9223372036854775807) : zig n < 2 ^ 64 := by
  unfold zig
  split <;> omega
end Go.Proofs.YtjapijndljknnaaGreatDoor

/-
  Events and frames as bytes: plain words (packages event, segment): the sum is any function of bytes.
-/
namespace Go.Proofs.YtjapijndljknnaaGreatDoor

structure Ev where
  thread : Int
  op : UInt8
  obj : Int
  a : Int
  b : Int
def Ev.zero : Ev := ⟨0, 0, 0, 0, 0⟩
def in64 (n : Int) : Prop := -9223372036854775808 ≤ n ∧ n ≤ 9223372036854775807
structure Ev.Ok (e : Ev) : Prop where
  thread : in64 e.thread
  obj : in64 e.obj
  a : in64 e.a
  b : in64 e.b
/-- A difference, as a machine has it. -/
def w64 (n : Int) : Int := (n + 9223372036854775808) % 18446744073709551616 - 9223372036854775808
theorem w64_in (n : Int) : in64 (w64 n) := by unfold w64 in64; omega
theorem w64_back {a b : Int} (h : in64 b) : w64 (a + w64 (b - a)) = b := by unfold in64 at h; unfold w64; omega
def intB (n : Int) : List UInt8 := uintB (zig n)
def putE (h e : Ev) : List UInt8 := e.op :: (intB (w64 (e.thread - h.thread)) ++ intB (w64 (e.obj - h.obj)) ++ intB (w64 (e.a - h.a)) ++ intB (w64 (e.b - h.b)))
def putL : Ev → List Ev → List UInt8
  | _, [] => []
  | h, e :: l => putE h e ++ putL e l
/-- The last event, or the one ahead. -/
def lastE (h : Ev) (l : List Ev) : Ev := l.getLastD h
theorem putL_snoc : ∀ (l : List Ev) (h e : Ev), putL h (l ++ [e]) = putL h l ++ putE (lastE h l) e
  | [], h, e => by simp [putL, lastE]
  | x :: l, h, e => by
    simp only [List.cons_append, putL, putL_snoc l x e, List.append_assoc]
    congr 2
    unfold lastE
    cases l <;> simp [List.getLast?_cons]
def bodyB (l : List Ev) : List UInt8 := uintB l.length ++ putL Ev.zero l
section
variable (sum : List UInt8 → List UInt8)
def sealB (b : List UInt8) : List UInt8 := b ++ sum b
def frameB (l : List Ev) : List UInt8 := uintB (bodyB l).length ++ sealB sum (bodyB l)
end
theorem intB_len {n : Int} (h : in64 n) : (intB n).length ≤ 10 := uintB_len _ 10 (by omega) (Nat.lt_trans (zig_lt h.1 h.2) (by decide))
theorem putE_len (h e : Ev) : (putE h e).length ≤ 41 := by
  have h1 := intB_len (w64_in (e.thread - h.thread))
  have h2 := intB_len (w64_in (e.obj - h.obj))
  have h3 := intB_len (w64_in (e.a - h.a))
  have h4 := intB_len (w64_in (e.b - h.b))
  simp only [putE, List.length_cons, List.length_append]
  omega
theorem putL_len : ∀ (l : List Ev) (h : Ev), (putL h l).length ≤ 41 * l.length
  | [], _ => by simp [putL]
  | e :: l, h => by
    have h1 := putE_len h e
    have h2 := putL_len l e
    simp only [putL, List.length_append, List.length_cons]
    omega
theorem bodyB_len (l : List Ev) (h : l.length ≤ 4096) : (bodyB l).length ≤ 41 * l.length + 2 := by
  have h1 := putL_len l Ev.zero
  have h2 := uintB_len l.length 2 (by omega) (by omega)
  simp only [bodyB, List.length_append]
  omega
theorem frameB_len {sum : List UInt8 → List UInt8} (hs : ∀ b, (sum b).length = 4) (l : List Ev) (h : l.length ≤ 4096) : (frameB sum l).length ≤ 41 * l.length + 9 := by
  have h1 := bodyB_len l h
  have h2 := uintB_len (bodyB l).length 3 (by omega) (by omega)
  simp only [frameB, sealB, List.length_append, hs]
  omega
end Go.Proofs.YtjapijndljknnaaGreatDoor

/-
  The disk's one way of doing an operation.
-/
namespace Go.Proofs.YtjapijndljknnaaGreatDoor
open Go Go.RowKit
set_option maxRecDepth 100000
set_option maxHeartbeats 400000

theorem heap_setCell_at {w : World} {b : Nat} {c : Array Value} {t : TypeId} (h : w.heap[b]? = some (.cells c t (0, 0))) (i : Nat) (v : Value) :
    (w.setCell ⟨b, i, none⟩ v).heap[b]? = some (.cells (c.setIfInBounds i v) t (0, 0)) := by
  simp [World.setCell, Array.getElem?_modify, h]

/-- The head is written anew, the rest stays. -/
theorem DiskAt.head {w w' : World} {b m : Nat} {d d' : Dsk} {fs : List FE} (h : DiskAt w b m d fs)
    (hh : w'.heap[b]? = some (.cells #[.map (some m), .int .i64 d'.most, .int .i64 d'.arm, .bool d'.down] 94 (0, 0)))
    (hb : ∀ k, k ≠ b → k < w.heap.size → w'.heap[k]? = w.heap[k]?) (hf : d'.files = d.files) (ok : d'.Ok) : DiskAt w' b m d' fs := by
  have hn := h.nodup
  simp only [dskBlocks, List.nodup_cons, List.mem_cons, List.mem_flatMap, not_or] at hn
  obtain ⟨⟨hbm, hbf⟩, -, -⟩ := hn
  obtain ⟨clock, h1, h2⟩ := h.map
  refine ⟨hh, ⟨clock, by rw [hb m (Ne.symm hbm) (lt_of_block h1)]; exact h1, h2⟩, by rw [hf]; exact h.files, fun f hfm => (h.file f hfm).keep fun k hk => ?_, h.nodup, h.born, ok⟩
  have hkb : k ≠ b := fun e => hbf ⟨f, hfm, e ▸ hk⟩
  exact hb k hkb (h.lt k (by simp only [dskBlocks, List.mem_cons, List.mem_flatMap]; exact .inr (.inr ⟨f, hfm, hk⟩)))

theorem DiskIn.head {w w' : World} {b : Nat} {d d' : Dsk} {S : Nat → Prop} (h : DiskIn w b d S)
    (hh : ∀ m, w.heap[b]? = some (.cells #[.map (some m), .int .i64 d.most, .int .i64 d.arm, .bool d.down] 94 (0, 0)) → w'.heap[b]? = some (.cells #[.map (some m), .int .i64 d'.most, .int .i64 d'.arm, .bool d'.down] 94 (0, 0)))
    (hb : ∀ k, k ≠ b → k < w.heap.size → w'.heap[k]? = w.heap[k]?) (hf : d'.files = d.files) (ok : d'.Ok) : DiskIn w' b d' S := by
  obtain ⟨m, fs, h1, h2⟩ := h
  exact ⟨m, fs, h1.head (hh m h1.hdr) hb hf ok, h2⟩

theorem DiskIn.own_b {w : World} {b : Nat} {d : Dsk} {S : Nat → Prop} (h : DiskIn w b d S) : S b := by
  obtain ⟨m, fs, h1, h2⟩ := h
  exact (h2 b).2 (by simp [dskBlocks])

def Dsk.ticked (d : Dsk) : Dsk := { d with arm := max (d.arm - 1) (-1) }
def Dsk.fails (d : Dsk) : Dsk := { d with arm := -1, down := true }
theorem Dsk.Ok.ticked {d : Dsk} (h : d.Ok) : d.ticked.Ok := ⟨h.most0, h.most1, by simp only [Dsk.ticked]; omega, by have := h.arm1; simp only [Dsk.ticked]; omega, h.names, h.named, h.few, h.used, h.synced⟩
theorem Dsk.Ok.fails {d : Dsk} (h : d.Ok) : d.fails.Ok := ⟨h.most0, h.most1, by simp [Dsk.fails], by simp [Dsk.fails], h.names, h.named, h.few, h.used, h.synced⟩

theorem DiskTo.refl {w w' : World} {b : Nat} {d : Dsk} {S : Nat → Prop} (h : DiskIn w b d S) (hw : Nw w w') : DiskTo S w w' b d :=
  ⟨S, h.nw hw, hw.only, fun _k hk => .inl hk⟩
theorem DiskTo.trans {w w1 w2 : World} {b : Nat} {d' : Dsk} {S : Nat → Prop} (h : Only S w w1) (h' : DiskTo S w1 w2 b d') : DiskTo S w w2 b d' := by
  obtain ⟨S', h1, h2, h3⟩ := h'
  exact ⟨S', h1, h.trans h2, fun k hk => (h3 k hk).imp id (fun hk => Nat.le_trans h.size hk)⟩

/-- A function that is entered when it is called. -/
def Enters (P : Program) (f : FuncId) : Prop := ∀ (args : Array Value) (w : World), (callFunc f args).run P w = .ok (.enter f args) w
theorem enters_of {P : Program} {f : FuncId} {fn : Func} (hf : P.funcs[f]? = some fn) (hn : (fn.name == "runtime.NumGoroutine") = false) (hb : fn.body.isNone = false) : Enters P f := by
  intro args w
  have hn' : ¬ fn.name = "runtime.NumGoroutine" := by simpa using hn
  have hb' : ¬ fn.body = none := fun e => by rw [e] at hb; cases hb
  simp [callFunc, hf, hn', hb', go_sem]

theorem hdr_nw {w w1 : World} {b m : Nat} {d : Dsk} (h : w.heap[b]? = some (.cells #[.map (some m), .int .i64 d.most, .int .i64 d.arm, .bool d.down] 94 (0, 0))) (hw : Nw w w1) :
    w1.cell? ⟨b, 2, none⟩ = some (.int .i64 d.arm) ∧ w1.cell? ⟨b, 3, none⟩ = some (.bool d.down) ∧ (∀ i, w1.frozen? ⟨b, i, none⟩ = false) ∧ b < w1.heap.size :=
  let h1 := hdr_cells (hw.at_ h)
  ⟨h1.2.2.1, h1.2.2.2.1, h1.2.2.2.2, lt_of_block (hw.at_ h)⟩

theorem operation_ok {w : World} {b : Nat} {d : Dsk} {S : Nat → Prop} (h : DiskIn w b d S) (fm fd : Nat) (cm cd : Array Value) (may : Int) (act : List (Str × DFile) → List (Str × DFile))
    (em : Enters Tryz.prog fm) (ed : Enters Tryz.prog fd)
    (hmay : d.down = false → Calls Tryz.prog fm cm w fun e w' => e = .returned (.int .i64 may) ∧ Nw w w')
    (hdo : may = 0 → d.down = false → ∀ w1, Only S w w1 → DiskIn w1 b d.ticked S → Calls Tryz.prog fd cd w1 fun e w' => e = .returned (.tuple #[]) ∧ DiskTo S w1 w' b { d.ticked with files := act d.files }) :
    Calls Tryz.prog 82 #[.pointer (some ⟨b, 0, none⟩), .func (.func fm) #[] cm, .func (.func fd) #[] cd] w fun e w' => e = .returned (.int .i64 (d.op may act).2) ∧ DiskTo S w w' b (d.op may act).1 := by
  unfold Enters at em ed
  obtain ⟨m, c0, c1, c2, c3, cf⟩ : ∃ m, w.cell? ⟨b, 0, none⟩ = some (.map (some m)) ∧ w.cell? ⟨b, 1, none⟩ = some (.int .i64 d.most) ∧ w.cell? ⟨b, 2, none⟩ = some (.int .i64 d.arm) ∧ w.cell? ⟨b, 3, none⟩ = some (.bool d.down) ∧ ∀ i, w.frozen? ⟨b, i, none⟩ = false := by
    obtain ⟨m, fs, hD, -⟩ := h
    exact ⟨m, hdr_cells hD.hdr⟩
  cases hdn : d.down
  case true =>
    have r : d.op may act = (d, 15) := by simp [Dsk.op, hdn]
    rw [r]
    rw [hdn] at c3
    clear hmay hdo r hdn
    have H := Lib.hid h; clear h
    go_enter Tryz.func82, Tryz.ntmps82
    go_wp2_with (go_at_call 56; refine (up_ok _ b m true c0 c3).mono ?_; rintro e w' ⟨rfl, rfl⟩)
    go_ret
    exact ⟨rfl, DiskTo.refl H.out (Nw.refl _)⟩
  case false =>
    rw [hdn] at c3
    have hmay' := hmay hdn
    by_cases hm : may = 0
    case neg =>
      have r : d.op may act = (d, may) := by simp [Dsk.op, hdn, hm]
      rw [r]
      have hb : (may == 0) = false := by simpa using hm
      have hb' : (may != 0) = true := by simpa using hm
      have hn : ¬ may = 0 := hm
      clear hmay hdo r hdn hm
      have H := Lib.hid h; clear h
      have HM := Lib.hid hmay'; clear hmay'
      go_enter Tryz.func82, Tryz.ntmps82
      go_wp2_with (first | (go_at_call 56; refine (up_ok _ b m false c0 c3).mono ?_; rintro e w' ⟨rfl, rfl⟩) | (refine HM.out.mono ?_; rintro e w1 ⟨rfl, hw1⟩))
      go_ret
      exact ⟨rfl, DiskTo.refl H.out hw1⟩
    case pos =>
      subst hm
      have hdo' := hdo rfl hdn
      have hdr : ∃ m, w.heap[b]? = some (.cells #[.map (some m), .int .i64 d.most, .int .i64 d.arm, .bool d.down] 94 (0, 0)) := by
        obtain ⟨m, fs, hD, -⟩ := h
        exact ⟨m, hD.hdr⟩
      have hb := h.own_b
      have hlt := h.lt b hb
      have ok := h.ok
      have ha0 := ok.arm0
      have ha1 := ok.arm1
      clear hdo hmay
      by_cases ha : d.arm = 0
      case pos =>
        have r : d.op 0 act = (d.fails, 15) := by simp [Dsk.op, hdn, ha, Dsk.fails]
        rw [r]
        rw [ha] at c2
        have HA := Lib.hid ha
        have H := Lib.hid h
        have HM := Lib.hid hmay'
        have HO := Lib.hid ok
        have HH := Lib.hid hdr
        clear h hmay' hdo' r hdn ha ok hdr ha0 ha1 c1
        go_enter Tryz.func82, Tryz.ntmps82
        go_wp2_with (first | (go_at_call 56; refine (up_ok _ b m false c0 c3).mono ?_; rintro e w' ⟨rfl, rfl⟩) | (refine HM.out.mono ?_))
        rintro e w1 ⟨rfl, hw1⟩
        obtain ⟨m', hh⟩ := HH.out
        obtain ⟨e2, e3, ef, elt⟩ := hdr_nw hh hw1
        rw [HA.out] at e2
        have HH' := Lib.hid hh; clear hh
        go_wp2
        go_ret
        refine ⟨rfl, S, ?_, ?_, fun k hk => .inl hk⟩
        · refine H.out.head (d' := d.fails) (fun m0 hm0 => ?_) (fun k hk hkl => ?_) rfl HO.out.fails
          · rw [heap_setCell_at (heap_setCell_at (hw1.at_ hm0) 3 _) 2 _]; rfl
          · rw [Below.heap_setCell _ _ _ _ hk, Below.heap_setCell _ _ _ _ hk]; exact hw1.block k hkl (fun hf => hf)
        · exact (hw1.only.setCell (fun _ => hb) _).setCell (fun _ => hb) _
      case neg =>
        have r : d.op 0 act = ({ d.ticked with files := act d.files }, 0) := by simp [Dsk.op, hdn, ha, Dsk.ticked]
        rw [r]
        have hb0 : (d.arm == 0) = false := by simpa using ha
        have H := Lib.hid h
        have HM := Lib.hid hmay'
        have HD := Lib.hid hdo'
        have HO := Lib.hid ok
        have HH := Lib.hid hdr
        clear h hmay' hdo' r hdn ok hdr c1
        have hcase : 1 ≤ d.arm ∨ d.arm ≤ -1 := by omega
        rcases hcase with hs | hs
        all_goals
          go_enter Tryz.func82, Tryz.ntmps82
          go_wp2_with (first | (go_at_call 56; refine (up_ok _ b m false c0 c3).mono ?_; rintro e w' ⟨rfl, rfl⟩) | (refine HM.out.mono ?_))
          rintro e w1 ⟨rfl, hw1⟩
          obtain ⟨m', hh⟩ := HH.out
          obtain ⟨e2, e3, ef, elt⟩ := hdr_nw hh hw1
          have HH' := Lib.hid hh; clear hh
          go_wp2_with (refine (HD.out _ ?_ ?_).mono ?_)
          · exact hw1.only.setCell (fun _ => hb) _
          · refine H.out.head (d' := d.ticked) (fun m0 hm0 => ?_) (fun k hk hkl => ?_) rfl HO.out.ticked
            · rw [heap_setCell_at (hw1.at_ hm0) 2 _]
              have : max (d.arm - 1) (-1) = (if 1 ≤ d.arm then d.arm - 1 else -1) := by split <;> omega
              simp [Dsk.ticked, this, hs]
              try omega
            · rw [Below.heap_setCell _ _ _ _ hk]; exact hw1.block k hkl (fun hf => hf)
          · rintro e w2 ⟨rfl, hw2⟩
            go_wp2
            go_ret
            exact ⟨rfl, DiskTo.trans (hw1.only.setCell (fun _ => hb) _) hw2⟩
end Go.Proofs.YtjapijndljknnaaGreatDoor
