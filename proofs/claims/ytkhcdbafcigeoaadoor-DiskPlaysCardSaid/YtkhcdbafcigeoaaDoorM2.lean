/-
  Texts merged by a program of this claim's: Disk, DiskA.
-/
import Derived.Test.YtkhcdbafcigeoaaDoorM1
import Derived.Test.YtkhcdbafcigeoaaDoorChecked
import Derived.WalkSpells
/-
  The disk in plain words (files in the order in which they were made), and how it lies in memory.
-/
namespace Go.Proofs.YtkhcdbafcigeoaaDoor
open Go Go.RowKit

/-! ### Plain words -/
structure DFile where
  bytes : List UInt8
  synced : Nat
structure Dsk where
  most : Int
  files : List (Str × DFile)
  arm : Int
  down : Bool

def setF : List (Str × DFile) → Str → DFile → List (Str × DFile)
  | [], n, f => [(n, f)]
  | (k, g) :: L, n, f => if k = n then (n, f) :: L else (k, g) :: setF L n f
def delF : List (Str × DFile) → Str → List (Str × DFile)
  | [], _ => []
  | (k, g) :: L, n => if k = n then L else (k, g) :: delF L n
def getF : List (Str × DFile) → Str → Option DFile
  | [], _ => none
  | (k, g) :: L, n => if k = n then some g else getF L n
def namesF (L : List (Str × DFile)) : List Str := L.map Prod.fst
def usedF (L : List (Str × DFile)) : Nat := (L.map fun x => x.2.bytes.length).sum

def okChar (c : UInt8) : Bool := (97 ≤ c && c ≤ 122) || (48 ≤ c && c ≤ 57) || c == 46 || c == 45
def okName (n : Str) : Bool := !n.isEmpty && decide (n.length ≤ 40) && n.all okChar

/-- One operation: what is in its way (0: nothing), what it does. -/
def Dsk.op (d : Dsk) (may : Int) (act : List (Str × DFile) → List (Str × DFile)) : Dsk × Int :=
  if d.down then (d, 15) else if may ≠ 0 then (d, may) else if d.arm = 0 then ({ d with arm := -1, down := true }, 15)
  else ({ d with files := act d.files, arm := max (d.arm - 1) (-1) }, 0)

def Dsk.there (d : Dsk) (n : Str) : Int := if n ∈ namesF d.files then 0 else 13
def fileOf (L : List (Str × DFile)) (n : Str) : DFile := (getF L n).getD ⟨[], 0⟩
def Dsk.mayAppend (d : Dsk) (n : Str) (l : List UInt8) : Int :=
  if okName n then (if d.most < (usedF d.files + l.length : Nat) ∨ (n ∉ namesF d.files ∧ 200 ≤ d.files.length) then 5 else 0) else 13
def Dsk.append (d : Dsk) (n : Str) (l : List UInt8) : Dsk × Int :=
  d.op (d.mayAppend n l) fun L => setF L n ⟨(fileOf L n).bytes ++ l, (fileOf L n).synced⟩
def Dsk.sync (d : Dsk) (n : Str) : Dsk × Int :=
  d.op (d.there n) fun L => setF L n ⟨(fileOf L n).bytes, (fileOf L n).bytes.length⟩
def Dsk.rename (d : Dsk) (a b : Str) : Dsk × Int :=
  d.op (if okName b then d.there a else 13) fun L => setF (delF L a) b (fileOf L a)
def Dsk.remove (d : Dsk) (n : Str) : Dsk × Int := d.op (d.there n) fun L => delF L n
def Dsk.mayCut (d : Dsk) (n : Str) (k : Int) : Int :=
  match getF d.files n with
  | none => 13
  | some f => if k < 0 ∨ (f.bytes.length : Int) < k then 2 else 0
def Dsk.cut (d : Dsk) (n : Str) (k : Int) : Dsk × Int :=
  d.op (d.mayCut n k) fun L => setF L n ⟨(fileOf L n).bytes.take k.toNat, k.toNat⟩
def Dsk.read (d : Dsk) (n : Str) : List UInt8 × Int :=
  if d.down then ([], 15) else match getF d.files n with
  | none => ([], 13)
  | some f => (f.bytes, 0)
def leB (a b : Str) : Bool := decide (a ≤ b)
def Dsk.list (d : Dsk) : List Str := (namesF d.files).mergeSort fun x y => decide (x ≤ y)
def Dsk.armed (d : Dsk) (n : Int) : Dsk := if d.down then d else { d with arm := max n 0 }
/-- What a crash leaves of a file. -/
def leaves (f : DFile) (keep : Int) : DFile :=
  let k := f.synced + min keep.toNat (f.bytes.length - f.synced)
  ⟨f.bytes.take k, k⟩
def crashF : List Str → List Int → List (Str × DFile) → List (Str × DFile)
  | [], _, L => L
  | n :: ns, ks, L => crashF ns ks.tail (setF L n (leaves (fileOf L n) (ks.headD 0)))
def Dsk.crash (d : Dsk) (ks : List Int) : Dsk := { d with files := crashF d.list ks d.files, arm := -1, down := false }

/-- What holds of every disk that was made. -/
structure Dsk.Ok (d : Dsk) : Prop where
  most0 : 0 ≤ d.most
  most1 : d.most ≤ 16777216
  arm0 : -1 ≤ d.arm
  arm1 : d.arm ≤ 9223372036854775807
  names : (namesF d.files).Nodup
  named : ∀ n ∈ namesF d.files, okName n = true
  few : d.files.length ≤ 200
  used : (usedF d.files : Int) ≤ d.most
  synced : ∀ x ∈ d.files, x.2.synced ≤ x.2.bytes.length

section
variable {L A B : List (Str × DFile)} {n : Str} {f g : DFile}
theorem setF_miss (h : n ∉ namesF L) : setF L n f = L ++ [(n, f)] := by
  induction L with
  | nil => rfl
  | cons x L ih =>
    obtain ⟨k, g⟩ := x
    simp only [namesF, List.map_cons, List.mem_cons, not_or] at h
    simp [setF, Ne.symm h.1, ih h.2]
theorem setF_hit (h : n ∉ namesF A) : setF (A ++ (n, g) :: B) n f = A ++ (n, f) :: B := by
  induction A with
  | nil => simp [setF]
  | cons x A ih =>
    obtain ⟨k, g'⟩ := x
    simp only [namesF, List.map_cons, List.mem_cons, not_or] at h
    simp [setF, Ne.symm h.1, ih h.2]
theorem delF_hit (h : n ∉ namesF A) : delF (A ++ (n, g) :: B) n = A ++ B := by
  induction A with
  | nil => simp [delF]
  | cons x A ih =>
    obtain ⟨k, g'⟩ := x
    simp only [namesF, List.map_cons, List.mem_cons, not_or] at h
    simp [delF, Ne.symm h.1, ih h.2]
theorem getF_hit (h : n ∉ namesF A) : getF (A ++ (n, g) :: B) n = some g := by
  induction A with
  | nil => simp [getF]
  | cons x A ih =>
    obtain ⟨k, g'⟩ := x
    simp only [namesF, List.map_cons, List.mem_cons, not_or] at h
    simp [getF, Ne.symm h.1, ih h.2]
theorem getF_miss (h : n ∉ namesF L) : getF L n = none := by
  induction L with
  | nil => rfl
  | cons x L ih =>
    obtain ⟨k, g⟩ := x
    simp only [namesF, List.map_cons, List.mem_cons, not_or] at h
    simp [getF, Ne.symm h.1, ih h.2]
end

/-! ### In memory -/
def u8 (c : UInt8) : Value := .int .u8 c.toNat

/-- .. of bytes. -/
abbrev Bs (w : World) (v : Value) (l : List UInt8) : Prop := Rd u8 w v l

/-- .. at the head of a row of its own. -/
abbrev Own (w : World) (v : Value) (l : List UInt8) : Prop := RowF u8 5 w v l
theorem u8_one (c : UInt8) : (u8 c).oneCell' = true := rfl

/-- One file as it lies in memory. -/
structure FE where
  name : Str
  file : DFile
  fb : Nat
  sl : Value
  born : Nat
def FE.en (f : FE) : En := ⟨f.name, .pointer (some ⟨f.fb, 0, none⟩), f.born⟩
def FE.nf (f : FE) : Str × DFile := (f.name, f.file)
def FE.blocks (f : FE) : List Nat := f.fb :: f.sl.ownBlock.toList
structure FE.At (w : World) (f : FE) : Prop where
  blk : w.heap[f.fb]? = some (.cells #[f.sl, .int .i64 f.file.synced] 68 (0, 0))
  own : Own w f.sl f.file.bytes

def dskBlocks (b m : Nat) (fs : List FE) : List Nat := b :: m :: fs.flatMap FE.blocks

structure DiskAt (w : World) (b m : Nat) (d : Dsk) (fs : List FE) : Prop where
  hdr : w.heap[b]? = some (.cells #[.map (some m), .int .i64 d.most, .int .i64 d.arm, .bool d.down] 57 (0, 0))
  map : ∃ clock, w.heap[m]? = some (.map (ents (fs.map FE.en)) clock) ∧ ∀ f ∈ fs, f.born < clock
  files : d.files = fs.map FE.nf
  file : ∀ f ∈ fs, f.At w
  nodup : (dskBlocks b m fs).Nodup
  born : (fs.map FE.born).Nodup
  ok : d.Ok

theorem FE.At.keep {w w' : World} {f : FE} (h : f.At w) (hb : ∀ k ∈ f.blocks, w'.heap[k]? = w.heap[k]?) : f.At w' :=
  ⟨by rw [hb f.fb (by simp [FE.blocks])]; exact h.blk, h.own.keep fun g hg => hb g (by simp [FE.blocks, hg])⟩

theorem DiskAt.keep {w w' : World} {b m : Nat} {d : Dsk} {fs : List FE} (h : DiskAt w b m d fs) (hb : ∀ k ∈ dskBlocks b m fs, w'.heap[k]? = w.heap[k]?) : DiskAt w' b m d fs := by
  obtain ⟨clock, h1, h2⟩ := h.map
  exact ⟨by rw [hb b (by simp [dskBlocks])]; exact h.hdr, ⟨clock, by rw [hb m (by simp [dskBlocks])]; exact h1, h2⟩, h.files,
    fun f hf => (h.file f hf).keep fun k hk => hb k (by simp only [dskBlocks, List.mem_cons, List.mem_flatMap]; exact .inr (.inr ⟨f, hf, hk⟩)), h.nodup, h.born, h.ok⟩

theorem DiskAt.lt {w : World} {b m : Nat} {d : Dsk} {fs : List FE} (h : DiskAt w b m d fs) : ∀ k ∈ dskBlocks b m fs, k < w.heap.size := by
  intro k hk
  simp only [dskBlocks, List.mem_cons, List.mem_flatMap] at hk
  rcases hk with rfl | rfl | ⟨f, hf, hk⟩
  · exact lt_of_block h.hdr
  · obtain ⟨clock, h1, _⟩ := h.map; exact lt_of_block h1
  · simp only [FE.blocks, List.mem_cons, Option.mem_toList] at hk
    rcases hk with rfl | hk
    · exact lt_of_block (h.file f hf).blk
    · exact (h.file f hf).own.lt _ hk

/-- The disk, and the blocks that are its own. -/
def DiskIn (w : World) (b : Nat) (d : Dsk) (S : Nat → Prop) : Prop := ∃ m fs, DiskAt w b m d fs ∧ ∀ k, S k ↔ k ∈ dskBlocks b m fs

theorem DiskIn.keep {S T : Nat → Prop} {w w' : World} {b : Nat} {d : Dsk} (h : DiskIn w b d S) (ho : Only T w w') (hd : ∀ k, S k → ¬ T k) : DiskIn w' b d S := by
  obtain ⟨m, fs, h1, h2⟩ := h
  exact ⟨m, fs, h1.keep fun k hk => ho.block k (h1.lt k hk) (hd k ((h2 k).2 hk)), h2⟩
theorem DiskIn.nw {S : Nat → Prop} {w w' : World} {b : Nat} {d : Dsk} (h : DiskIn w b d S) (ho : Nw w w') : DiskIn w' b d S := h.keep ho (fun _ _ hf => hf)
theorem DiskIn.lt {S : Nat → Prop} {w : World} {b : Nat} {d : Dsk} (h : DiskIn w b d S) : ∀ k, S k → k < w.heap.size := by
  obtain ⟨m, fs, h1, h2⟩ := h
  exact fun k hk => h1.lt k ((h2 k).1 hk)
theorem DiskIn.ok {S : Nat → Prop} {w : World} {b : Nat} {d : Dsk} (h : DiskIn w b d S) : d.Ok := by
  obtain ⟨m, fs, h1, h2⟩ := h
  exact h1.ok

/-- From one disk to the next: what was turned is the disk's own; what is its own now was, or is new. -/
def DiskTo (S : Nat → Prop) (w w' : World) (b : Nat) (d' : Dsk) : Prop := ∃ S' : Nat → Prop, DiskIn w' b d' S' ∧ Only S w w' ∧ ∀ k, S' k → S k ∨ w.heap.size ≤ k
end Go.Proofs.YtkhcdbafcigeoaaDoor

/-
  The disk's small functions, walked.
-/
namespace Go.Proofs.YtkhcdbafcigeoaaDoor
open Go Go.RowKit
set_option maxRecDepth 100000
set_option maxHeartbeats 400000

theorem ret1 {k : IntKind} {a b : Int} (h : a = b) : Ending.returned (.int k a) = .returned (.int k b) := by rw [h]
theorem retB {a b : Bool} (h : a = b) : Ending.returned (.bool a) = .returned (.bool b) := by rw [h]

theorem eqlMap (w : World) (r : Option Nat) : (binOp .eql 55 (.map r) (.map none)).run Tryd.prog w = .ok (.bool r.isNone) w :=
  Go.run_eql_map_nil w _ _ _ r Tryd.underlying55

/-- The cells of the head. -/
theorem hdr_cells {w : World} {b m : Nat} {d : Dsk} (h : w.heap[b]? = some (.cells #[.map (some m), .int .i64 d.most, .int .i64 d.arm, .bool d.down] 57 (0, 0))) :
    w.cell? ⟨b, 0, none⟩ = some (.map (some m)) ∧ w.cell? ⟨b, 1, none⟩ = some (.int .i64 d.most) ∧ w.cell? ⟨b, 2, none⟩ = some (.int .i64 d.arm) ∧ w.cell? ⟨b, 3, none⟩ = some (.bool d.down) ∧
    ∀ i, w.frozen? ⟨b, i, none⟩ = false := by
  simp [World.cell?, World.frozen?, h]

theorem none_nil (w : World) : Calls Tryd.prog 53 #[.pointer none] w fun e w' => e = .returned (.bool true) ∧ w = w' := by
  go_enter Tryd.func53, Tryd.ntmps53
  go_wp2
  go_ret
  exact ⟨rfl, rfl⟩
theorem none_zero (w : World) (b : Nat) (h0 : w.cell? ⟨b, 0, none⟩ = some (.map none)) : Calls Tryd.prog 53 #[.pointer (some ⟨b, 0, none⟩)] w fun e w' => e = .returned (.bool true) ∧ w = w' := by
  have q := eqlMap w none
  go_enter Tryd.func53, Tryd.ntmps53
  go_wp2
  go_ret
  exact ⟨rfl, rfl⟩
theorem none_ok (w : World) (b m : Nat) (h0 : w.cell? ⟨b, 0, none⟩ = some (.map (some m))) : Calls Tryd.prog 53 #[.pointer (some ⟨b, 0, none⟩)] w fun e w' => e = .returned (.bool false) ∧ w = w' := by
  have q := eqlMap w (some m)
  go_enter Tryd.func53, Tryd.ntmps53
  go_wp2
  go_ret
  exact ⟨rfl, rfl⟩

theorem up_ok (w : World) (b m : Nat) (dn : Bool) (h0 : w.cell? ⟨b, 0, none⟩ = some (.map (some m))) (h3 : w.cell? ⟨b, 3, none⟩ = some (.bool dn)) :
    Calls Tryd.prog 54 #[.pointer (some ⟨b, 0, none⟩)] w fun e w' => e = .returned (.int .i64 (if dn then 15 else 0)) ∧ w = w' := by
  cases dn
  all_goals
    go_enter Tryd.func54, Tryd.ntmps54
    go_wp2_with (go_at_call 53; refine (none_ok _ b m h0).mono ?_; rintro e w' ⟨rfl, rfl⟩)
    go_ret
    exact ⟨rfl, rfl⟩
theorem up_nil (w : World) : Calls Tryd.prog 54 #[.pointer none] w fun e w' => e = .returned (.int .i64 1) ∧ w = w' := by
  go_enter Tryd.func54, Tryd.ntmps54
  go_wp2_with (go_at_call 53; refine (none_nil _).mono ?_; rintro e w' ⟨rfl, rfl⟩)
  go_ret
  exact ⟨rfl, rfl⟩
theorem up_zero (w : World) (b : Nat) (h0 : w.cell? ⟨b, 0, none⟩ = some (.map none)) : Calls Tryd.prog 54 #[.pointer (some ⟨b, 0, none⟩)] w fun e w' => e = .returned (.int .i64 1) ∧ w = w' := by
  go_enter Tryd.func54, Tryd.ntmps54
  go_wp2_with (go_at_call 53; refine (none_zero _ b h0).mono ?_; rintro e w' ⟨rfl, rfl⟩)
  go_ret
  exact ⟨rfl, rfl⟩

theorem Down_ok {w : World} {b : Nat} {d : Dsk} {S : Nat → Prop} (h : DiskIn w b d S) :
    Calls Tryd.prog 32 #[.pointer (some ⟨b, 0, none⟩)] w fun e w' => e = .returned (.bool d.down) ∧ w = w' := by
  obtain ⟨m, fs, hD, -⟩ := h
  obtain ⟨c0, c1, c2, c3, -⟩ := hdr_cells hD.hdr
  clear hD
  go_enter Tryd.func32, Tryd.ntmps32
  go_wp2_with (go_at_call 53; refine (none_ok _ b m c0).mono ?_; rintro e w' ⟨rfl, rfl⟩)
  go_ret
  exact ⟨rfl, rfl⟩

/-- The lookup of a name. -/
def ptrOf (fs : List FE) (n : Str) : Option Addr := (fs.find? (·.name == n)).map fun f => ⟨f.fb, 0, none⟩

theorem zeroPtr (w : World) : (zeroValue 65).run Tryd.prog w = .ok (.pointer none) w := by kernel_rfl

theorem look_file {w : World} {m clock : Nat} {fs : List FE} (hb : w.heap[m]? = some (.map (ents (fs.map FE.en)) clock)) (n : Str) :
    (Instr.lookup 55 (.map (some m)) (.string ⟨n.toArray⟩) false).run Tryd.prog w = .ok (.pointer (ptrOf fs n)) w := by
  rcases split_key n (fs.map FE.en) with hn | ⟨A, e, B, he, hk, hA⟩
  · have hp : ptrOf fs n = none := by
      simp only [ptrOf, Option.map_eq_none_iff, List.find?_eq_none]
      intro f hf hc
      exact hn (by simp only [List.map_map, List.mem_map]; exact ⟨f, hf, by simpa [FE.en] using hc⟩)
    rw [hp]
    exact run_look_miss Tryd.underlying55 Tryd.underlying9 (zeroPtr w) hb hn
  · have hb' := hb
    rw [he] at hb'
    rw [run_look_hit Tryd.underlying55 Tryd.underlying9 hb' hk hA]
    obtain ⟨A', B1, rfl, rfl, h2⟩ := List.map_eq_append_iff.1 he
    obtain ⟨f, B', rfl, rfl, rfl⟩ := List.map_eq_cons_iff.1 h2
    have : (A' ++ f :: B').find? (·.name == n) = some f := by
      rw [List.find?_append]
      have hn : A'.find? (·.name == n) = none := by
        rw [List.find?_eq_none]
        intro g hg hc
        exact hA (by simp only [List.map_map, List.mem_map]; exact ⟨g, hg, by simpa [FE.en] using hc⟩)
      rw [hn]
      simp [show f.name = n from hk]
    simp [ptrOf, this, FE.en]
end Go.Proofs.YtkhcdbafcigeoaaDoor
