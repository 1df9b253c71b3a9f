/-
  Texts merged by a program of this claim's: RecPlain, RecA.
-/
import Derived.Test.YtjapijndljknnaaGreatDoorM28
import Derived.Deep.DeepCutAuto
/-
  Package recover in plain words: what a disk's files tell, what is mended, how a log goes on; and what holds through any crash and failure.
-/
namespace Go.Proofs.YtjapijndljknnaaGreatDoor
open Go

/-! ### What is answered (U: what the denser coding tells) -/
section
variable (U : List UInt8 → Int × List Ev × Int)
def readFl (d : Dsk) (n : Str) : List UInt8 × Int := ((d.read n).1, if (d.read n).2 = 13 then 14 else (d.read n).2)
def segR (dense : Bool) (b : List UInt8) : Int × List Ev × Int × Int := if dense then ((U b).1, (U b).2.1, (b.length : Int), (U b).2.2) else scanB b
def segBad (p : Pc) (op : Bool) (b : List UInt8) : Prop :=
  (segR U p.dense b).2.2.2 ≠ 0 ∨ (segR U p.dense b).1 ≠ p.first ∨ (op = false ∧ ((segR U p.dense b).2.2.1 < b.length ∨ ((segR U p.dense b).2.1.length : Int) ≠ p.count))
instance (p : Pc) (op : Bool) (b : List UInt8) : Decidable (segBad U p op b) := by unfold segBad; exact inferInstance
def pieceD (d : Dsk) (p : Pc) (op : Bool) : List Ev × Int × Int :=
  if (readFl d p.name).2 ≠ 0 then ([], 0, (readFl d p.name).2) else
  if segBad U p op (readFl d p.name).1 then ([], 0, 14) else ((segR U p.dense (readFl d p.name).1).2.1, (segR U p.dense (readFl d p.name).1).2.2.1, 0)
def pcsD (d : Dsk) : List Pc → List Ev → Int → List Ev × Int × Int
  | [], out, good => (out, good, 0)
  | q :: l, out, _ => if (pieceD U d q (decide (l = []))).2.2 ≠ 0 then ([], 0, (pieceD U d q (decide (l = []))).2.2) else pcsD d l (out ++ (pieceD U d q (decide (l = []))).1) (pieceD U d q (decide (l = []))).2.1
structure ScanR where
  es : List Ev
  ps : List Pc
  good : Int
  e : Int
def scanD (d : Dsk) : ScanR :=
  if (d.read manifestS).2 = 13 then ⟨[], [], 0, 0⟩ else if (d.read manifestS).2 ≠ 0 then ⟨[], [], 0, (d.read manifestS).2⟩ else
  if (listedB (d.read manifestS).1).2 ≠ 0 then ⟨[], [], 0, 14⟩ else
  if (pcsD U d (listedB (d.read manifestS).1).1 [] 0).2.2 ≠ 0 then ⟨[], [], 0, (pcsD U d (listedB (d.read manifestS).1).1 [] 0).2.2⟩ else
  ⟨(pcsD U d (listedB (d.read manifestS).1).1 [] 0).1, (listedB (d.read manifestS).1).1, (pcsD U d (listedB (d.read manifestS).1).1 [] 0).2.1, 0⟩
end
/-- Names that do not stay are removed, one by one, up to the first error. -/
def rmAll (stays : List Str) : List Str → Dsk → Dsk × Int
  | [], d => (d, 0)
  | n :: l, d => if n ∈ stays then rmAll stays l d else if (d.remove n).2 ≠ 0 then d.remove n else rmAll stays l (d.remove n).1
def cutD (d : Dsk) (ps : List Pc) (good : Int) : Dsk × Int :=
  if ps ≠ [] ∧ good < ((fileOf d.files (lastP ps).name).bytes.length : Int) then d.cut (lastP ps).name good else (d, 0)
def staysOf (ps : List Pc) : List Str := manifestS :: ps.map Pc.name
structure MendR where
  d : Dsk
  es : List Ev
  ps : List Pc
  e : Int
def mendWith (d : Dsk) (r : ScanR) : MendR :=
  if r.e ≠ 0 then ⟨d, [], [], r.e⟩ else if (cutD d r.ps r.good).2 ≠ 0 then ⟨(cutD d r.ps r.good).1, [], [], (cutD d r.ps r.good).2⟩ else
  if (rmAll (staysOf r.ps) (cutD d r.ps r.good).1.list (cutD d r.ps r.good).1).2 ≠ 0 then ⟨(rmAll (staysOf r.ps) (cutD d r.ps r.good).1.list (cutD d r.ps r.good).1).1, [], [], (rmAll (staysOf r.ps) (cutD d r.ps r.good).1.list (cutD d r.ps r.good).1).2⟩ else
  ⟨(rmAll (staysOf r.ps) (cutD d r.ps r.good).1.list (cutD d r.ps r.good).1).1, r.es, r.ps, 0⟩
def mendD (U : List UInt8 → Int × List Ev × Int) (d : Dsk) : MendR := mendWith d (scanD U d)
/-- Resume: the disk then, the error, and (at 0) the log. -/
def resumeD (d : Dsk) (size : Int) (l : List Pc) (n : Int) : Dsk × Int :=
  if size < 64 ∨ 16777216 < size ∨ rightL l = false ∨ n < (lastP l).first ∨ 2305843009213693952 < n then (d, 2) else
  if (d.read (lastP l).name).2 ≠ 0 then (d, (d.read (lastP l).name).2) else d.sync (lastP l).name
def onLg (d : Dsk) (size : Int) (l : List Pc) (n : Nat) : Lg := ⟨size, l, n, n, (fileOf d.files (lastP l).name).bytes.length, false⟩
structure OpenR where
  d : Dsk
  L : Lg
  es : List Ev
  e : Int
def openD (U : List UInt8 → Int × List Ev × Int) (d : Dsk) (size : Int) : OpenR :=
  if size < 64 ∨ 16777216 < size then ⟨d, newLg size, [], 2⟩ else
  if (mendD U d).e ≠ 0 then ⟨(mendD U d).d, newLg size, [], (mendD U d).e⟩ else
  if (mendD U d).ps = [] then
    if (createD (mendD U d).d size).2 ≠ 0 then ⟨(createD (mendD U d).d size).1, newLg size, [], (createD (mendD U d).d size).2⟩ else ⟨(createD (mendD U d).d size).1, newLg size, (mendD U d).es, 0⟩
  else
    if (resumeD (mendD U d).d size (mendD U d).ps (mendD U d).es.length).2 ≠ 0 then ⟨(resumeD (mendD U d).d size (mendD U d).ps (mendD U d).es.length).1, newLg size, [], (resumeD (mendD U d).d size (mendD U d).ps (mendD U d).es.length).2⟩
    else ⟨(resumeD (mendD U d).d size (mendD U d).ps (mendD U d).es.length).1, onLg (mendD U d).d size (mendD U d).ps (mendD U d).es.length, (mendD U d).es, 0⟩

/-! ### What is torn -/
def FOk (f : List Ev) : Prop := 1 ≤ f.length ∧ f.length ≤ 4096 ∧ ∀ e ∈ f, e.Ok
def Torn (t : List UInt8) : Prop := t = [] ∨ ∃ f j, FOk f ∧ j < (frmB f).length ∧ t = (frmB f).take j
theorem Torn.take {t : List UInt8} (h : Torn t) (k : Nat) : Torn (t.take k) := by
  rcases h with rfl | ⟨f, j, h1, h2, rfl⟩
  · exact .inl (by simp)
  · exact .inr ⟨f, min k j, h1, by omega, by rw [List.take_take]⟩
theorem Torn.none {t : List UInt8} (h : Torn t) (a' : List UInt8) : (readFr (a' ++ t) a'.length).2.2 ≠ 0 := by
  rcases h with rfl | ⟨f, j, h1, h2, rfl⟩
  · rw [List.append_nil, readFr_end]; simp
  · rw [readFr_cut a' h1.2.1 h2]; simp
theorem take_torn (n : Nat) {fs : List (List Ev)} (hf : FrOk fs) {t : List UInt8} (ht : Torn t) (m k : Nat) (hk : (segB n (fs.take m)).length ≤ k) (hm : m ≤ fs.length) : ∃ (i : Nat) (t' : List UInt8), m ≤ i ∧ i ≤ fs.length ∧ (segB n fs ++ t).take k = segB n (fs.take i) ++ t' ∧ Torn t' := by
  by_cases hl : k ≤ (segB n fs).length
  · obtain ⟨i, f, j, h1, h2, h3, h4⟩ := take_seg n fs m k hk hm
    refine ⟨i, (frmB f).take j, h1, h2, ?_, ?_⟩
    · rw [List.take_append_of_le_length hl, h3]; simp [segB]
    · rcases h4 with rfl | ⟨h5, h6⟩
      · exact .inl (by simp)
      · exact .inr ⟨f, j, hf f h5, h6, rfl⟩
  · refine ⟨fs.length, t.take (k - (segB n fs).length), hm, Nat.le_refl _, ?_, ht.take _⟩
    rw [List.take_append, List.take_of_length_le (by omega), List.take_length]

/-! ### Files that tell -/
structure TIn (Wh : Pc → List UInt8 → List Ev → Prop) (F : List (Str × DFile)) (l A : List Pc) (p : Pc) (old : List Ev) (fs : List (List Ev)) (t : List UInt8) (m : Nat) : Prop where
  nd : (namesF F).Nodup
  l_ : l = A ++ [p]
  right : RightP A p
  man : fileOf F manifestS = ⟨manifestB l, (manifestB l).length⟩
  old_ : sealedF Wh F A old
  open_ : ∃ s, fileOf F p.name = ⟨segB p.first.toNat fs ++ t, s⟩ ∧ (segB p.first.toNat (fs.take m)).length ≤ s
  m_ : m ≤ fs.length
  fr : FrOk fs
  torn : Torn t
  first : p.first = old.length
  free : ∀ k : Nat, p.first < k → segName k ∉ l.map Pc.name
  pname : p.name = segName p.first.toNat
def dName (n : Nat) : Str := 100 :: Lib.decDigits n
/-- A sealed piece's name. -/
def NameOk (q : Pc) : Prop := (q.dense = false → q.name = segName q.first.toNat) ∧ (q.dense = true → q.first = 0 ∧ q.name = dName q.count.toNat)
/-- A sealed piece's file tells its events. -/
def WholeU (U : List UInt8 → Int × List Ev × Int) (q : Pc) (b : List UInt8) (es : List Ev) : Prop := segR U q.dense b = (q.first, es, (b.length : Int), 0) ∧ q.count = es.length ∧ b ≠ [] ∧ NameOk q
theorem wholeU_of (U : List UInt8 → Int × List Ev × Int) (q : Pc) (fs : List (List Ev)) (hf : FrOk fs) (hd : q.dense = false) (hc : q.count = fs.flatten.length) (h0 : 0 ≤ q.first) (h1 : q.first ≤ 4611686018427387904) (h2 : q.name = segName q.first.toNat) : WholeU U q (segB q.first.toNat fs) fs.flatten := by
  have a : scanB (segB q.first.toNat fs) = (q.first, fs.flatten, ((segB q.first.toNat fs).length : Int), 0) := by
    have := scanB_at (n := q.first.toNat) (by omega) fs [] hf (fun a' => by rw [List.append_nil, readFr_end]; simp)
    rw [List.append_nil] at this
    unfold segB; rw [this]; simp; omega
  have b := hc
  refine ⟨?_, b, ?_, ⟨fun _ => h2, fun h => by rw [hd] at h; cases h⟩⟩
  · unfold segR; rw [hd]; simpa using a
  · unfold segB
    have := headB_ne q.first.toNat
    intro hc
    exact this (List.append_eq_nil_iff.1 hc).1
theorem seals_wholeU (U : List UInt8 → Int × List Ev × Int) : SealsOk (WholeU U) := fun q fs hf hd hc h0 h1 h2 => wholeU_of U q fs hf hd hc h0 h1 h2
section
variable {Wh : Pc → List UInt8 → List Ev → Prop} {F F' : List (Str × DFile)} {l A : List Pc} {p : Pc} {old : List Ev} {fs : List (List Ev)} {t : List UInt8} {m : Nat} {L : Lg} {all : List Ev}
theorem KIn.tin (h : KIn Wh F L all A p old fs m) : TIn Wh F L.l A p old fs [] m :=
  ⟨h.nd, h.l, h.right, h.man, h.old_, ⟨_, by rw [h.open_, List.append_nil], Nat.le_refl _⟩, h.m_, h.fr, .inl rfl, h.first, h.free, h.pname⟩
theorem TIn.files (h : TIn Wh F l A p old fs t m) (hn : (namesF F').Nodup) (hs : ∀ x, x ∈ staysOf l → fileOf F' x = fileOf F x) : TIn Wh F' l A p old fs t m := by
  have hp : p.name ∈ staysOf l := by rw [h.l_]; simp [staysOf]
  refine ⟨hn, h.l_, h.right, (hs _ (by simp [staysOf])).trans h.man, sealedF_congr h.old_ fun q hq => hs _ (by rw [h.l_]; simp only [staysOf, List.mem_cons, List.map_append, List.mem_append]; exact .inr (.inl (List.mem_map.2 ⟨q, hq, rfl⟩))), ?_, h.m_, h.fr, h.torn, h.first, h.free, h.pname⟩
  rw [hs _ hp]; exact h.open_
theorem TIn.apart (h : TIn Wh F l A p old fs t m) : ¬ manifestS = p.name ∧ ∀ q ∈ A, q.name ≠ p.name :=
  ⟨fun hc => (okPiece_name h.right.name).2.1 hc.symm, fun q hq hc => h.right.apart (List.mem_map.2 ⟨q, hq, hc⟩)⟩
theorem TIn.at_ (h : TIn Wh F l A p old fs t m) {f : DFile} {fs' : List (List Ev)} {t' : List UInt8} {m' : Nat} (hf : f.bytes = segB p.first.toNat fs' ++ t') (hs : (segB p.first.toNat (fs'.take m')).length ≤ f.synced) (hm : m' ≤ fs'.length) (hfr : FrOk fs') (ht : Torn t') :
    TIn Wh (setF F p.name f) l A p old fs' t' m' := by
  obtain ⟨a1, a2⟩ := h.apart
  refine ⟨nodup_setF h.nd _ _, h.l_, h.right, ?_, sealedF_congr h.old_ fun q hq => ?_, ⟨f.synced, ?_, hs⟩, hm, hfr, ht, h.first, h.free, h.pname⟩
  · rw [fileOf_setF, if_neg (Ne.symm a1)]; exact h.man
  · rw [fileOf_setF, if_neg (Ne.symm (a2 q hq))]
  · rw [fileOf_setF, if_pos rfl, ← hf]
theorem TIn.last (h : TIn Wh F l A p old fs t m) : lastP l = p := by rw [h.l_, lastP_snoc]
theorem TIn.rightL (h : TIn Wh F l A p old fs t m) : rightL l = true := by rw [h.l_]; exact (rightL_iff A p).2 h.right
theorem TIn.ne (h : TIn Wh F l A p old fs t m) : l ≠ [] := by rw [h.l_]; simp
theorem TIn.low (h : TIn Wh F l A p old fs t m) {m' : Nat} (hm : m' ≤ m) : TIn Wh F l A p old fs t m' := by
  obtain ⟨s, h1, h2⟩ := h.open_
  refine ⟨h.nd, h.l_, h.right, h.man, h.old_, ⟨s, h1, Nat.le_trans ?_ h2⟩, Nat.le_trans hm h.m_, h.fr, h.torn, h.first, h.free, h.pname⟩
  have : fs.take m' = (fs.take m).take m' := by rw [List.take_take, Nat.min_eq_left hm]
  rw [this]
  conv => rhs; rw [← List.take_append_drop m' (fs.take m)]
  simp only [segB, List.length_append, List.flatMap_append]; omega

/-! ### A crash -/
/-- Of each file there is a beginning left, with all that was synced. -/
def Cr (F F' : List (Str × DFile)) : Prop := namesF F' = namesF F ∧ ∀ n, ∃ k, fileOf F' n = ⟨(fileOf F n).bytes.take k, ((fileOf F n).bytes.take k).length⟩ ∧ (fileOf F n).synced ≤ k
theorem sealedF_cr (hc : Cr F F') : ∀ {A : List Pc} {es : List Ev}, sealedF Wh F A es → sealedF Wh F' A es
  | [], _, h => h
  | q :: A, es, ⟨b, e1, e2, h1, h2, h3, h4⟩ => by
    refine ⟨b, e1, e2, ?_, h2, h3, sealedF_cr hc h4⟩
    obtain ⟨k, k1, k2⟩ := hc.2 q.name
    rw [h1] at k1 k2
    simp only at k1 k2
    rw [List.take_of_length_le k2] at k1
    exact k1
theorem TIn.cr (h : TIn Wh F l A p old fs t m) (hc : Cr F F') : ∃ i t', m ≤ i ∧ i ≤ fs.length ∧ TIn Wh F' l A p old (fs.take i) t' i := by
  obtain ⟨s, s1, s2⟩ := h.open_
  obtain ⟨k, k1, k2⟩ := hc.2 p.name
  rw [s1] at k1 k2
  simp only at k1 k2
  obtain ⟨i, t', i1, i2, i3, i4⟩ := take_torn p.first.toNat h.fr h.torn m k (by omega) h.m_
  rw [i3] at k1
  have hl : (fs.take i).length = i := by simp; omega
  refine ⟨i, t', i1, i2, ⟨by rw [hc.1]; exact h.nd, h.l_, h.right, ?_, sealedF_cr hc h.old_, ⟨_, k1, ?_⟩, by omega, fun f hf => h.fr f (List.mem_of_mem_take hf), i4, h.first, h.free, h.pname⟩⟩
  · obtain ⟨k, k1, k2⟩ := hc.2 manifestS
    rw [h.man] at k1 k2
    simp only at k1 k2
    rw [List.take_of_length_le k2] at k1
    exact k1
  · rw [List.take_of_length_le (by omega)]; simp
end
end Go.Proofs.YtjapijndljknnaaGreatDoor

/-
  Package recover, walked: read, piece.
-/
namespace Go.Proofs.YtjapijndljknnaaGreatDoor
open Go Go.RowKit Go.Sort
set_option maxRecDepth 100000
set_option maxHeartbeats 1600000

theorem cell_of {W : World} {p : Nat} {cs : Array Value} {t : TypeId} {fz : Nat × Nat} (h : W.heap[p]? = some (.cells cs t fz)) {i : Nat} {v : Value} (hi : cs[i]? = some v) : W.cell? ⟨p, i, none⟩ = some v := by simp [World.cell?, h, hi]
/-- The contract of the denser coding's reader. -/
structure DenOk (U : List UInt8 → Int × List Ev × Int) : Prop where
  calls : ∀ (W : World) (v : Value) (b : List UInt8), Bs W v b → b.length ≤ 16777216 → Calls Tryz.prog 164 #[v] W fun z w' => ∃ v', z = .returned (.tuple #[.int .i64 (U b).1, v', .int .i64 (U b).2.2]) ∧ OwnE W w' v' (U b).2.1
  len : ∀ b, (U b).2.1.length ≤ 16777216
section
variable {X : Nat → Prop} {w0 w : World} {b : Nat} {d : Dsk} {U : List UInt8 → Int × List Ev × Int}
end
end Go.Proofs.YtjapijndljknnaaGreatDoor
