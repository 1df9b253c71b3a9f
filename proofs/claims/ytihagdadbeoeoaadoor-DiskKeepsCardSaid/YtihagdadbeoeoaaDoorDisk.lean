/-
  The disk in plain words (files in the order in which they were made), and how it lies in memory.
-/
import Derived.Test.YtihagdadbeoeoaaDoorMap
import Derived.Test.YtihagdadbeoeoaaDoorApp
namespace Go.Proofs.YtihagdadbeoeoaaDoor
open Go Go.RowKit

/-! ### Plain words -/
structure DFile where
  bytes : List UInt8
  synced : Nat
structure Dsk where
  most : Int
  files : List (Str × DFile)
  arm : Int
  down : Bool

def setF : List (Str × DFile) → Str → DFile → List (Str × DFile)
  | [], n, f => [(n, f)]
  | (k, g) :: L, n, f => if k = n then (n, f) :: L else (k, g) :: setF L n f
def delF : List (Str × DFile) → Str → List (Str × DFile)
  | [], _ => []
  | (k, g) :: L, n => if k = n then L else (k, g) :: delF L n
def getF : List (Str × DFile) → Str → Option DFile
  | [], _ => none
  | (k, g) :: L, n => if k = n then some g else getF L n
def namesF (L : List (Str × DFile)) : List Str := L.map Prod.fst
def usedF (L : List (Str × DFile)) : Nat := (L.map fun x => x.2.bytes.length).sum

def okChar (c : UInt8) : Bool := (97 ≤ c && c ≤ 122) || (48 ≤ c && c ≤ 57) || c == 46 || c == 45
def okName (n : Str) : Bool := !n.isEmpty && decide (n.length ≤ 40) && n.all okChar

/-- One operation: what is in its way (0: nothing), what it does. -/
def Dsk.op (d : Dsk) (may : Int) (act : List (Str × DFile) → List (Str × DFile)) : Dsk × Int :=
  if d.down then (d, 15) else if may ≠ 0 then (d, may) else if d.arm = 0 then ({ d with arm := -1, down := true }, 15)
  else ({ d with files := act d.files, arm := max (d.arm - 1) (-1) }, 0)

def Dsk.there (d : Dsk) (n : Str) : Int := if n ∈ namesF d.files then 0 else 13
def fileOf (L : List (Str × DFile)) (n : Str) : DFile := (getF L n).getD ⟨[], 0⟩
def Dsk.mayAppend (d : Dsk) (n : Str) (l : List UInt8) : Int :=
  if okName n then (if d.most < (usedF d.files + l.length : Nat) ∨ (n ∉ namesF d.files ∧ 200 ≤ d.files.length) then 5 else 0) else 13
def Dsk.append (d : Dsk) (n : Str) (l : List UInt8) : Dsk × Int :=
  d.op (d.mayAppend n l) fun L => setF L n ⟨(fileOf L n).bytes ++ l, (fileOf L n).synced⟩
def Dsk.sync (d : Dsk) (n : Str) : Dsk × Int :=
  d.op (d.there n) fun L => setF L n ⟨(fileOf L n).bytes, (fileOf L n).bytes.length⟩
def Dsk.rename (d : Dsk) (a b : Str) : Dsk × Int :=
  d.op (if okName b then d.there a else 13) fun L => setF (delF L a) b (fileOf L a)
def Dsk.remove (d : Dsk) (n : Str) : Dsk × Int := d.op (d.there n) fun L => delF L n
def Dsk.mayCut (d : Dsk) (n : Str) (k : Int) : Int :=
  match getF d.files n with
  | none => 13
  | some f => if k < 0 ∨ (f.bytes.length : Int) < k then 2 else 0
def Dsk.cut (d : Dsk) (n : Str) (k : Int) : Dsk × Int :=
  d.op (d.mayCut n k) fun L => setF L n ⟨(fileOf L n).bytes.take k.toNat, k.toNat⟩
def Dsk.read (d : Dsk) (n : Str) : List UInt8 × Int :=
  if d.down then ([], 15) else match getF d.files n with
  | none => ([], 13)
  | some f => (f.bytes, 0)
def leB (a b : Str) : Bool := decide (a ≤ b)
def Dsk.list (d : Dsk) : List Str := (namesF d.files).mergeSort fun x y => decide (x ≤ y)
def Dsk.armed (d : Dsk) (n : Int) : Dsk := if d.down then d else { d with arm := max n 0 }
/-- What a crash leaves of a file. -/
def leaves (f : DFile) (keep : Int) : DFile :=
  let k := f.synced + min keep.toNat (f.bytes.length - f.synced)
  ⟨f.bytes.take k, k⟩
def crashF : List Str → List Int → List (Str × DFile) → List (Str × DFile)
  | [], _, L => L
  | n :: ns, ks, L => crashF ns ks.tail (setF L n (leaves (fileOf L n) (ks.headD 0)))
def Dsk.crash (d : Dsk) (ks : List Int) : Dsk := { d with files := crashF d.list ks d.files, arm := -1, down := false }

/-- What holds of every disk that was made. -/
structure Dsk.Ok (d : Dsk) : Prop where
  most0 : 0 ≤ d.most
  most1 : d.most ≤ 16777216
  arm0 : -1 ≤ d.arm
  arm1 : d.arm ≤ 9223372036854775807
  names : (namesF d.files).Nodup
  named : ∀ n ∈ namesF d.files, okName n = true
  few : d.files.length ≤ 200
  used : (usedF d.files : Int) ≤ d.most
  synced : ∀ x ∈ d.files, x.2.synced ≤ x.2.bytes.length

section
variable {L A B : List (Str × DFile)} {n : Str} {f g : DFile}
theorem setF_miss (h : n ∉ namesF L) : setF L n f = L ++ [(n, f)] := by
  induction L with
  | nil => rfl
  | cons x L ih =>
    obtain ⟨k, g⟩ := x
    simp only [namesF, List.map_cons, List.mem_cons, not_or] at h
    simp [setF, Ne.symm h.1, ih h.2]
theorem setF_hit (h : n ∉ namesF A) : setF (A ++ (n, g) :: B) n f = A ++ (n, f) :: B := by
  induction A with
  | nil => simp [setF]
  | cons x A ih =>
    obtain ⟨k, g'⟩ := x
    simp only [namesF, List.map_cons, List.mem_cons, not_or] at h
    simp [setF, Ne.symm h.1, ih h.2]
theorem delF_hit (h : n ∉ namesF A) : delF (A ++ (n, g) :: B) n = A ++ B := by
  induction A with
  | nil => simp [delF]
  | cons x A ih =>
    obtain ⟨k, g'⟩ := x
    simp only [namesF, List.map_cons, List.mem_cons, not_or] at h
    simp [delF, Ne.symm h.1, ih h.2]
theorem getF_hit (h : n ∉ namesF A) : getF (A ++ (n, g) :: B) n = some g := by
  induction A with
  | nil => simp [getF]
  | cons x A ih =>
    obtain ⟨k, g'⟩ := x
    simp only [namesF, List.map_cons, List.mem_cons, not_or] at h
    simp [getF, Ne.symm h.1, ih h.2]
theorem getF_miss (h : n ∉ namesF L) : getF L n = none := by
  induction L with
  | nil => rfl
  | cons x L ih =>
    obtain ⟨k, g⟩ := x
    simp only [namesF, List.map_cons, List.mem_cons, not_or] at h
    simp [getF, Ne.symm h.1, ih h.2]
end

/-! ### In memory -/
def u8 (c : UInt8) : Value := .int .u8 c.toNat

/-- .. of bytes. -/
abbrev Bs (w : World) (v : Value) (l : List UInt8) : Prop := Rd u8 w v l

/-- .. at the head of a row of its own. -/
abbrev Own (w : World) (v : Value) (l : List UInt8) : Prop := RowF u8 5 w v l
theorem u8_one (c : UInt8) : (u8 c).oneCell' = true := rfl

/-- One file as it lies in memory. -/
structure FE where
  name : Str
  file : DFile
  fb : Nat
  sl : Value
  born : Nat
def FE.en (f : FE) : En := ⟨f.name, .pointer (some ⟨f.fb, 0, none⟩), f.born⟩
def FE.nf (f : FE) : Str × DFile := (f.name, f.file)
def FE.blocks (f : FE) : List Nat := f.fb :: f.sl.ownBlock.toList
structure FE.At (w : World) (f : FE) : Prop where
  blk : w.heap[f.fb]? = some (.cells #[f.sl, .int .i64 f.file.synced] 90 (0, 0))
  own : Own w f.sl f.file.bytes

def dskBlocks (b m : Nat) (fs : List FE) : List Nat := b :: m :: fs.flatMap FE.blocks

structure DiskAt (w : World) (b m : Nat) (d : Dsk) (fs : List FE) : Prop where
  hdr : w.heap[b]? = some (.cells #[.map (some m), .int .i64 d.most, .int .i64 d.arm, .bool d.down] 69 (0, 0))
  map : ∃ clock, w.heap[m]? = some (.map (ents (fs.map FE.en)) clock) ∧ ∀ f ∈ fs, f.born < clock
  files : d.files = fs.map FE.nf
  file : ∀ f ∈ fs, f.At w
  nodup : (dskBlocks b m fs).Nodup
  born : (fs.map FE.born).Nodup
  ok : d.Ok

theorem FE.At.keep {w w' : World} {f : FE} (h : f.At w) (hb : ∀ k ∈ f.blocks, w'.heap[k]? = w.heap[k]?) : f.At w' :=
  ⟨by rw [hb f.fb (by simp [FE.blocks])]; exact h.blk, h.own.keep fun g hg => hb g (by simp [FE.blocks, hg])⟩

theorem DiskAt.keep {w w' : World} {b m : Nat} {d : Dsk} {fs : List FE} (h : DiskAt w b m d fs) (hb : ∀ k ∈ dskBlocks b m fs, w'.heap[k]? = w.heap[k]?) : DiskAt w' b m d fs := by
  obtain ⟨clock, h1, h2⟩ := h.map
  exact ⟨by rw [hb b (by simp [dskBlocks])]; exact h.hdr, ⟨clock, by rw [hb m (by simp [dskBlocks])]; exact h1, h2⟩, h.files,
    fun f hf => (h.file f hf).keep fun k hk => hb k (by simp only [dskBlocks, List.mem_cons, List.mem_flatMap]; exact .inr (.inr ⟨f, hf, hk⟩)), h.nodup, h.born, h.ok⟩

theorem DiskAt.lt {w : World} {b m : Nat} {d : Dsk} {fs : List FE} (h : DiskAt w b m d fs) : ∀ k ∈ dskBlocks b m fs, k < w.heap.size := by
  intro k hk
  simp only [dskBlocks, List.mem_cons, List.mem_flatMap] at hk
  rcases hk with rfl | rfl | ⟨f, hf, hk⟩
  · exact lt_of_block h.hdr
  · obtain ⟨clock, h1, _⟩ := h.map; exact lt_of_block h1
  · simp only [FE.blocks, List.mem_cons, Option.mem_toList] at hk
    rcases hk with rfl | hk
    · exact lt_of_block (h.file f hf).blk
    · exact (h.file f hf).own.lt _ hk

/-- The disk, and the blocks that are its own. -/
def DiskIn (w : World) (b : Nat) (d : Dsk) (S : Nat → Prop) : Prop := ∃ m fs, DiskAt w b m d fs ∧ ∀ k, S k ↔ k ∈ dskBlocks b m fs

theorem DiskIn.keep {S T : Nat → Prop} {w w' : World} {b : Nat} {d : Dsk} (h : DiskIn w b d S) (ho : Only T w w') (hd : ∀ k, S k → ¬ T k) : DiskIn w' b d S := by
  obtain ⟨m, fs, h1, h2⟩ := h
  exact ⟨m, fs, h1.keep fun k hk => ho.block k (h1.lt k hk) (hd k ((h2 k).2 hk)), h2⟩
theorem DiskIn.nw {S : Nat → Prop} {w w' : World} {b : Nat} {d : Dsk} (h : DiskIn w b d S) (ho : Nw w w') : DiskIn w' b d S := h.keep ho (fun _ _ hf => hf)
theorem DiskIn.lt {S : Nat → Prop} {w : World} {b : Nat} {d : Dsk} (h : DiskIn w b d S) : ∀ k, S k → k < w.heap.size := by
  obtain ⟨m, fs, h1, h2⟩ := h
  exact fun k hk => h1.lt k ((h2 k).1 hk)
theorem DiskIn.ok {S : Nat → Prop} {w : World} {b : Nat} {d : Dsk} (h : DiskIn w b d S) : d.Ok := by
  obtain ⟨m, fs, h1, h2⟩ := h
  exact h1.ok

/-- From one disk to the next: what was turned is the disk's own; what is its own now was, or is new. -/
def DiskTo (S : Nat → Prop) (w w' : World) (b : Nat) (d' : Dsk) : Prop := ∃ S' : Nat → Prop, DiskIn w' b d' S' ∧ Only S w w' ∧ ∀ k, S' k → S k ∨ w.heap.size ≤ k
end Go.Proofs.YtihagdadbeoeoaaDoor
