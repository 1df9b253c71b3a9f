/-
  Texts merged by a program of this claim's: PiecesPlain, RecPlain, RNPlain.
-/
import Derived.Test.YtkhcdbafcigeoaaGreatDoorM29
import Derived.Test.YtkhcdbafcigeoaaGreatDoorM30
import Derived.WalkKit
import Derived.Test.YtkhcdbafcigeoaaGreatDoorM5
namespace Go.Proofs.YtkhcdbafcigeoaaGreatDoor
open Go
structure Pk (size : Int) (c : Nat) (d : Dsk) (L : Lg) : Prop where
  sk : ∃ p last, Sk size c d L p last ∧ (L.n = 0 ∨ p.first < L.n)
theorem Pk.new {size : Int} (hs : 64 ≤ size) (hs2 : size ≤ 16777216) : ∃ d, createD (newDsk 1048576) size = (d, 0) ∧ Pk size 0 d (newLg size) := by
  obtain ⟨d, h1, h2⟩ := Sk.new hs hs2
  exact ⟨d, h1, _, _, h2, .inl rfl⟩
section
variable {size : Int} {c : Nat} {d : Dsk} {L : Lg}
theorem Pk.add (h : Pk size c d L) (hc : c < 60) (hs : 64 ≤ size) {es : List Ev} (h1 : es.length ≠ 0) (h2 : es.length ≤ 30) : ∃ d' L', L.add d es = ⟨d', L', 0⟩ ∧ Pk size (c + 1) d' L' ∧ L'.n = L.n + es.length := by
  obtain ⟨p, last, h, hp⟩ := h
  obtain ⟨d', L', p', a1, a2, a3, a4⟩ := h.add hc hs h1 h2
  obtain ⟨A, hi, -⟩ := h.inv
  have h3 := hi.acked0
  have h4 := hi.acked1
  refine ⟨d', L', a1, ⟨p', _, a2, .inr ?_⟩, a3⟩
  rcases a4 with ⟨rfl, -⟩ | hm
  · rw [a3]; omega
  · rw [hm.first, a3]; omega
theorem Pk.ak (h : Pk size c d L) : Ak size c d L := by
  obtain ⟨p, last, h, -⟩ := h
  exact h.ak
theorem Pk.facts (h : Pk size c d L) : rightL L.l = true ∧ d.list.Perm (manifestS :: L.l.map Pc.name) ∧ d.read manifestS = (manifestB L.l, 0) ∧ (L.n = 0 ∨ (lastP L.l).first < L.n) ∧ (lastP L.l).first ≤ L.acked := by
  obtain ⟨p, last, h, hp⟩ := h
  obtain ⟨A, hi, -⟩ := h.inv
  have hl := hi.open_
  refine ⟨by rw [hi.l]; exact (rightL_iff A p).2 hi.right, ?_, read_of hi.calm.up (congrArg DFile.bytes hi.man) (manifestB_ne _), by rw [hl]; exact hp, by rw [hl]; exact hi.acked0⟩
  exact (List.mergeSort_perm _ _).trans hi.names
end
structure Ck (size : Int) (c : Nat) (d : Dsk) (L : Lg) (all : List Ev) : Prop where
  inv : ∃ A p, LInv d L A p
  kin : KInv Whole d.files L all
  most : d.most = 1048576
  used : usedF d.files ≤ 40 + c * 6605
  n : L.n ≤ 9 * c
  bytes : L.bytes ≤ 18 + c * 378
  size : L.size = size
theorem frm_le9 {es : List Ev} (h : es.length ≤ 9) : (frmB es).length ≤ 378 := by
  have := frameB_len (sum := sumB) (fun b => sumB_len b) es (by omega)
  have e : (frmB es).length = (frameB sumB es).length := rfl
  omega
theorem Ck.new {size : Int} (hs : 64 ≤ size) (hs2 : size ≤ 16777216) : ∃ d, createD (newDsk 1048576) size = (d, 0) ∧ Ck size 0 d (newLg size) [] := by
  obtain ⟨F, h1, h2, h3, h4⟩ := create_calm' 1048576 (by omega) hs hs2
  have hb : (headB 0).length ≤ 18 := headB_len (n := 0) (by omega)
  exact ⟨_, h1, ⟨⟨_, _, h2⟩, KInv.new 1048576 (by omega) hs hs2 h1, rfl, by simpa using h3, by simp [newLg], by simpa [newLg] using hb, rfl⟩⟩
section
variable {size : Int} {c : Nat} {d : Dsk} {L : Lg} {all : List Ev}
theorem Ck.add (h : Ck size c d L all) (hc : c < 120) {es : List Ev} (h1 : es.length ≠ 0) (h2 : es.length ≤ 9) (h3 : ∀ e ∈ es, e.Ok) :
    (∃ d' L', L.add d es = ⟨d', L', 0⟩ ∧ Ck size (c + 1) d' L' (all ++ es)) ∨ ∃ d' L', L.add d es = ⟨d', L', 5⟩ ∧ L'.l.length = 100 ∧ L'.l.length ≤ 1000 := by
  obtain ⟨⟨A, p, hi⟩, hk, hm, hu, hn, hb, hs⟩ := h
  have hf := frm_le9 h2
  have hK := hk.add (d := d) seals_whole h3
  by_cases hst : p.first < L.n ∧ L.size ≤ L.bytes
  · by_cases h100 : A.length + 1 < 100
    · obtain ⟨F, a1, a2, a3, -⟩ := another_calm hi h100 hst.1 (by omega) (by rw [hm]; omega)
      obtain ⟨p1, p2, p3⟩ := put_calm a2 es (by simp only; rw [hm]; omega)
      have hh : (headB L.n).length ≤ 18 := headB_len (n := L.n) (by omega)
      have e := add_more hi h1 (by omega) hst (by rw [a1])
      rw [a1] at e
      have e := e.trans p1
      rw [e, if_pos rfl] at hK
      refine .inl ⟨_, _, e, ⟨⟨_, _, p2⟩, hK, hm, ?_, ?_, ?_, hs⟩⟩
      · rw [p3]; simp only; omega
      · simp only; omega
      · simp only; omega
    · have hl : L.l.length = A.length + 1 := by rw [hi.l]; simp
      have hr2 := hi.right.few
      have e : L.add d es = ⟨d, { L with over := true }, 5⟩ := by
        unfold Lg.add Lg.roomed Lg.another
        rw [hi.over, hi.open_, if_pos hst, if_pos (show 100 ≤ L.l.length by omega), if_neg (by simp), if_neg h1, if_neg (by omega), if_pos (by simp)]
      exact .inr ⟨_, _, e, by simp only; omega, by simp only; omega⟩
  · obtain ⟨p1, p2, p3⟩ := put_calm hi es (by rw [hm]; omega)
    have e := (add_stay hi h1 (by omega) hst).trans p1
    rw [e, if_pos rfl] at hK
    refine .inl ⟨_, _, e, ⟨⟨_, _, p2⟩, hK, hm, ?_, ?_, ?_, hs⟩⟩
    · simp only; rw [p3]; omega
    · simp only; omega
    · simp only; omega
theorem Ck.facts (h : Ck size c d L all) (hc : c ≤ 120) : L.l ≠ [] ∧ L.l.length ≤ 1000 ∧ L.n ≤ 1080 ∧ L.bytes ≤ 45378 ∧ 0 ≤ (lastP L.l).first ∧ L.over = false ∧ d.down = false := by
  obtain ⟨⟨A, p, hi⟩, hk, hm, hu, hn, hb, hs⟩ := h
  have hl := hi.open_
  have hf := hi.right.few
  exact ⟨by rw [hi.l]; simp, by rw [hi.l]; simp; omega, by omega, by omega, by rw [hl]; exact hi.firsts.1, hi.over, hi.calm.up⟩
end
end Go.Proofs.YtkhcdbafcigeoaaGreatDoor

namespace Go.Proofs.YtkhcdbafcigeoaaGreatDoor
open Go
section
variable (U : List UInt8 → Int × List Ev × Int)
def readFl (d : Dsk) (n : Str) : List UInt8 × Int := ((d.read n).1, if (d.read n).2 = 13 then 14 else (d.read n).2)
def segR (dense : Bool) (b : List UInt8) : Int × List Ev × Int × Int := if dense then ((U b).1, (U b).2.1, (b.length : Int), (U b).2.2) else scanB b
def segBad (p : Pc) (op : Bool) (b : List UInt8) : Prop :=
  (segR U p.dense b).2.2.2 ≠ 0 ∨ (segR U p.dense b).1 ≠ p.first ∨ (op = false ∧ ((segR U p.dense b).2.2.1 < b.length ∨ ((segR U p.dense b).2.1.length : Int) ≠ p.count))
instance (p : Pc) (op : Bool) (b : List UInt8) : Decidable (segBad U p op b) := by unfold segBad; exact inferInstance
def pieceD (d : Dsk) (p : Pc) (op : Bool) : List Ev × Int × Int :=
  if (readFl d p.name).2 ≠ 0 then ([], 0, (readFl d p.name).2) else
  if segBad U p op (readFl d p.name).1 then ([], 0, 14) else ((segR U p.dense (readFl d p.name).1).2.1, (segR U p.dense (readFl d p.name).1).2.2.1, 0)
def pcsD (d : Dsk) : List Pc → List Ev → Int → List Ev × Int × Int
  | [], out, good => (out, good, 0)
  | q :: l, out, _ => if (pieceD U d q (decide (l = []))).2.2 ≠ 0 then ([], 0, (pieceD U d q (decide (l = []))).2.2) else pcsD d l (out ++ (pieceD U d q (decide (l = []))).1) (pieceD U d q (decide (l = []))).2.1
structure ScanR where
  es : List Ev
  ps : List Pc
  good : Int
  e : Int
def scanD (d : Dsk) : ScanR :=
  if (d.read manifestS).2 = 13 then ⟨[], [], 0, 0⟩ else if (d.read manifestS).2 ≠ 0 then ⟨[], [], 0, (d.read manifestS).2⟩ else
  if (listedB (d.read manifestS).1).2 ≠ 0 then ⟨[], [], 0, 14⟩ else
  if (pcsD U d (listedB (d.read manifestS).1).1 [] 0).2.2 ≠ 0 then ⟨[], [], 0, (pcsD U d (listedB (d.read manifestS).1).1 [] 0).2.2⟩ else
  ⟨(pcsD U d (listedB (d.read manifestS).1).1 [] 0).1, (listedB (d.read manifestS).1).1, (pcsD U d (listedB (d.read manifestS).1).1 [] 0).2.1, 0⟩
end
def rmAll (stays : List Str) : List Str → Dsk → Dsk × Int
  | [], d => (d, 0)
  | n :: l, d => if n ∈ stays then rmAll stays l d else if (d.remove n).2 ≠ 0 then d.remove n else rmAll stays l (d.remove n).1
def cutD (d : Dsk) (ps : List Pc) (good : Int) : Dsk × Int :=
  if ps ≠ [] ∧ good < ((fileOf d.files (lastP ps).name).bytes.length : Int) then d.cut (lastP ps).name good else (d, 0)
def staysOf (ps : List Pc) : List Str := manifestS :: ps.map Pc.name
structure MendR where
  d : Dsk
  es : List Ev
  ps : List Pc
  e : Int
def mendWith (d : Dsk) (r : ScanR) : MendR :=
  if r.e ≠ 0 then ⟨d, [], [], r.e⟩ else if (cutD d r.ps r.good).2 ≠ 0 then ⟨(cutD d r.ps r.good).1, [], [], (cutD d r.ps r.good).2⟩ else
  if (rmAll (staysOf r.ps) (cutD d r.ps r.good).1.list (cutD d r.ps r.good).1).2 ≠ 0 then ⟨(rmAll (staysOf r.ps) (cutD d r.ps r.good).1.list (cutD d r.ps r.good).1).1, [], [], (rmAll (staysOf r.ps) (cutD d r.ps r.good).1.list (cutD d r.ps r.good).1).2⟩ else
  ⟨(rmAll (staysOf r.ps) (cutD d r.ps r.good).1.list (cutD d r.ps r.good).1).1, r.es, r.ps, 0⟩
def mendD (U : List UInt8 → Int × List Ev × Int) (d : Dsk) : MendR := mendWith d (scanD U d)
def resumeD (d : Dsk) (size : Int) (l : List Pc) (n : Int) : Dsk × Int :=
  if size < 64 ∨ 16777216 < size ∨ rightL l = false ∨ n < (lastP l).first ∨ 2305843009213693952 < n then (d, 2) else
  if (d.read (lastP l).name).2 ≠ 0 then (d, (d.read (lastP l).name).2) else d.sync (lastP l).name
def onLg (d : Dsk) (size : Int) (l : List Pc) (n : Nat) : Lg := ⟨size, l, n, n, (fileOf d.files (lastP l).name).bytes.length, false⟩
structure OpenR where
  d : Dsk
  L : Lg
  es : List Ev
  e : Int
def openD (U : List UInt8 → Int × List Ev × Int) (d : Dsk) (size : Int) : OpenR :=
  if size < 64 ∨ 16777216 < size then ⟨d, newLg size, [], 2⟩ else
  if (mendD U d).e ≠ 0 then ⟨(mendD U d).d, newLg size, [], (mendD U d).e⟩ else
  if (mendD U d).ps = [] then
    if (createD (mendD U d).d size).2 ≠ 0 then ⟨(createD (mendD U d).d size).1, newLg size, [], (createD (mendD U d).d size).2⟩ else ⟨(createD (mendD U d).d size).1, newLg size, (mendD U d).es, 0⟩
  else
    if (resumeD (mendD U d).d size (mendD U d).ps (mendD U d).es.length).2 ≠ 0 then ⟨(resumeD (mendD U d).d size (mendD U d).ps (mendD U d).es.length).1, newLg size, [], (resumeD (mendD U d).d size (mendD U d).ps (mendD U d).es.length).2⟩
    else ⟨(resumeD (mendD U d).d size (mendD U d).ps (mendD U d).es.length).1, onLg (mendD U d).d size (mendD U d).ps (mendD U d).es.length, (mendD U d).es, 0⟩
def FOk (f : List Ev) : Prop := 1 ≤ f.length ∧ f.length ≤ 4096 ∧ ∀ e ∈ f, e.Ok
def Torn (t : List UInt8) : Prop := t = [] ∨ ∃ f j, FOk f ∧ j < (frmB f).length ∧ t = (frmB f).take j
theorem Torn.take {t : List UInt8} (h : Torn t) (k : Nat) : Torn (t.take k) := by
  rcases h with rfl | ⟨f, j, h1, h2, rfl⟩
  · exact .inl (by simp)
  · exact .inr ⟨f, min k j, h1, by omega, by rw [List.take_take]⟩
theorem Torn.none {t : List UInt8} (h : Torn t) (a' : List UInt8) : (readFr (a' ++ t) a'.length).2.2 ≠ 0 := by
  rcases h with rfl | ⟨f, j, h1, h2, rfl⟩
  · rw [List.append_nil, readFr_end]; simp
  · rw [readFr_cut a' h1.2.1 h2]; simp
theorem take_torn (n : Nat) {fs : List (List Ev)} (hf : FrOk fs) {t : List UInt8} (ht : Torn t) (m k : Nat) (hk : (segB n (fs.take m)).length ≤ k) (hm : m ≤ fs.length) : ∃ (i : Nat) (t' : List UInt8), m ≤ i ∧ i ≤ fs.length ∧ (segB n fs ++ t).take k = segB n (fs.take i) ++ t' ∧ Torn t' := by
  by_cases hl : k ≤ (segB n fs).length
  · obtain ⟨i, f, j, h1, h2, h3, h4⟩ := take_seg n fs m k hk hm
    refine ⟨i, (frmB f).take j, h1, h2, ?_, ?_⟩
    · rw [List.take_append_of_le_length hl, h3]; simp [segB]
    · rcases h4 with rfl | ⟨h5, h6⟩
      · exact .inl (by simp)
      · exact .inr ⟨f, j, hf f h5, h6, rfl⟩
  · refine ⟨fs.length, t.take (k - (segB n fs).length), hm, Nat.le_refl _, ?_, ht.take _⟩
    rw [List.take_append, List.take_of_length_le (by omega), List.take_length]
structure TIn (Wh : Pc → List UInt8 → List Ev → Prop) (F : List (Str × DFile)) (l A : List Pc) (p : Pc) (old : List Ev) (fs : List (List Ev)) (t : List UInt8) (m : Nat) : Prop where
  nd : (namesF F).Nodup
  l_ : l = A ++ [p]
  right : RightP A p
  man : fileOf F manifestS = ⟨manifestB l, (manifestB l).length⟩
  old_ : sealedF Wh F A old
  open_ : ∃ s, fileOf F p.name = ⟨segB p.first.toNat fs ++ t, s⟩ ∧ (segB p.first.toNat (fs.take m)).length ≤ s
  m_ : m ≤ fs.length
  fr : FrOk fs
  torn : Torn t
  first : p.first = old.length
  free : ∀ k : Nat, p.first < k → segName k ∉ l.map Pc.name
  pname : p.name = segName p.first.toNat
def dName (n : Nat) : Str := 100 :: Lib.decDigits n
def NameOk (q : Pc) : Prop := (q.dense = false → q.name = segName q.first.toNat) ∧ (q.dense = true → q.first = 0 ∧ q.name = dName q.count.toNat)
def WholeU (U : List UInt8 → Int × List Ev × Int) (q : Pc) (b : List UInt8) (es : List Ev) : Prop := segR U q.dense b = (q.first, es, (b.length : Int), 0) ∧ q.count = es.length ∧ b ≠ [] ∧ NameOk q
theorem wholeU_of (U : List UInt8 → Int × List Ev × Int) (q : Pc) (fs : List (List Ev)) (hf : FrOk fs) (hd : q.dense = false) (hc : q.count = fs.flatten.length) (h0 : 0 ≤ q.first) (h1 : q.first ≤ 4611686018427387904) (h2 : q.name = segName q.first.toNat) : WholeU U q (segB q.first.toNat fs) fs.flatten := by
  have a : scanB (segB q.first.toNat fs) = (q.first, fs.flatten, ((segB q.first.toNat fs).length : Int), 0) := by
    have := scanB_at (n := q.first.toNat) (by omega) fs [] hf (fun a' => by rw [List.append_nil, readFr_end]; simp)
    rw [List.append_nil] at this
    unfold segB; rw [this]; simp; omega
  have b := hc
  refine ⟨?_, b, ?_, ⟨fun _ => h2, fun h => by rw [hd] at h; cases h⟩⟩
  · unfold segR; rw [hd]; simpa using a
  · unfold segB
    have := headB_ne q.first.toNat
    intro hc
    exact this (List.append_eq_nil_iff.1 hc).1
section
variable {Wh : Pc → List UInt8 → List Ev → Prop} {F F' : List (Str × DFile)} {l A : List Pc} {p : Pc} {old : List Ev} {fs : List (List Ev)} {t : List UInt8} {m : Nat} {L : Lg} {all : List Ev}
theorem TIn.files (h : TIn Wh F l A p old fs t m) (hn : (namesF F').Nodup) (hs : ∀ x, x ∈ staysOf l → fileOf F' x = fileOf F x) : TIn Wh F' l A p old fs t m := by
  have hp : p.name ∈ staysOf l := by rw [h.l_]; simp [staysOf]
  refine ⟨hn, h.l_, h.right, (hs _ (by simp [staysOf])).trans h.man, sealedF_congr h.old_ fun q hq => hs _ (by rw [h.l_]; simp only [staysOf, List.mem_cons, List.map_append, List.mem_append]; exact .inr (.inl (List.mem_map.2 ⟨q, hq, rfl⟩))), ?_, h.m_, h.fr, h.torn, h.first, h.free, h.pname⟩
  rw [hs _ hp]; exact h.open_
theorem TIn.apart (h : TIn Wh F l A p old fs t m) : ¬ manifestS = p.name ∧ ∀ q ∈ A, q.name ≠ p.name :=
  ⟨fun hc => (okPiece_name h.right.name).2.1 hc.symm, fun q hq hc => h.right.apart (List.mem_map.2 ⟨q, hq, hc⟩)⟩
theorem TIn.at_ (h : TIn Wh F l A p old fs t m) {f : DFile} {fs' : List (List Ev)} {t' : List UInt8} {m' : Nat} (hf : f.bytes = segB p.first.toNat fs' ++ t') (hs : (segB p.first.toNat (fs'.take m')).length ≤ f.synced) (hm : m' ≤ fs'.length) (hfr : FrOk fs') (ht : Torn t') :
    TIn Wh (setF F p.name f) l A p old fs' t' m' := by
  obtain ⟨a1, a2⟩ := h.apart
  refine ⟨nodup_setF h.nd _ _, h.l_, h.right, ?_, sealedF_congr h.old_ fun q hq => ?_, ⟨f.synced, ?_, hs⟩, hm, hfr, ht, h.first, h.free, h.pname⟩
  · rw [fileOf_setF, if_neg (Ne.symm a1)]; exact h.man
  · rw [fileOf_setF, if_neg (Ne.symm (a2 q hq))]
  · rw [fileOf_setF, if_pos rfl, ← hf]
theorem TIn.last (h : TIn Wh F l A p old fs t m) : lastP l = p := by rw [h.l_, lastP_snoc]
theorem TIn.rightL (h : TIn Wh F l A p old fs t m) : rightL l = true := by rw [h.l_]; exact (rightL_iff A p).2 h.right
theorem TIn.ne (h : TIn Wh F l A p old fs t m) : l ≠ [] := by rw [h.l_]; simp
def Cr (F F' : List (Str × DFile)) : Prop := namesF F' = namesF F ∧ ∀ n, ∃ k, fileOf F' n = ⟨(fileOf F n).bytes.take k, ((fileOf F n).bytes.take k).length⟩ ∧ (fileOf F n).synced ≤ k
theorem sealedF_cr (hc : Cr F F') : ∀ {A : List Pc} {es : List Ev}, sealedF Wh F A es → sealedF Wh F' A es
  | [], _, h => h
  | q :: A, es, ⟨b, e1, e2, h1, h2, h3, h4⟩ => by
    refine ⟨b, e1, e2, ?_, h2, h3, sealedF_cr hc h4⟩
    obtain ⟨k, k1, k2⟩ := hc.2 q.name
    rw [h1] at k1 k2
    simp only at k1 k2
    rw [List.take_of_length_le k2] at k1
    exact k1
theorem TIn.cr (h : TIn Wh F l A p old fs t m) (hc : Cr F F') : ∃ i t', m ≤ i ∧ i ≤ fs.length ∧ TIn Wh F' l A p old (fs.take i) t' i := by
  obtain ⟨s, s1, s2⟩ := h.open_
  obtain ⟨k, k1, k2⟩ := hc.2 p.name
  rw [s1] at k1 k2
  simp only at k1 k2
  obtain ⟨i, t', i1, i2, i3, i4⟩ := take_torn p.first.toNat h.fr h.torn m k (by omega) h.m_
  rw [i3] at k1
  have hl : (fs.take i).length = i := by simp; omega
  refine ⟨i, t', i1, i2, ⟨by rw [hc.1]; exact h.nd, h.l_, h.right, ?_, sealedF_cr hc h.old_, ⟨_, k1, ?_⟩, by omega, fun f hf => h.fr f (List.mem_of_mem_take hf), i4, h.first, h.free, h.pname⟩⟩
  · obtain ⟨k, k1, k2⟩ := hc.2 manifestS
    rw [h.man] at k1 k2
    simp only at k1 k2
    rw [List.take_of_length_le k2] at k1
    exact k1
  · rw [List.take_of_length_le (by omega)]; simp
end
end Go.Proofs.YtkhcdbafcigeoaaGreatDoor

namespace Go.Proofs.YtkhcdbafcigeoaaGreatDoor.RecoverNumbers
open Go Go.RowKit Go.Sort
set_option maxRecDepth 100000
def mendS (d : Dsk) (r : ScanR) : MendR :=
  if r.e ≠ 0 then ⟨d, [], [], r.e⟩ else if (cutD d r.ps r.good).2 ≠ 0 then ⟨(cutD d r.ps r.good).1, [], [], (cutD d r.ps r.good).2⟩ else
  if (rmAll (staysOf r.ps) (sortS (namesF (cutD d r.ps r.good).1.files)) (cutD d r.ps r.good).1).2 ≠ 0 then ⟨(rmAll (staysOf r.ps) (sortS (namesF (cutD d r.ps r.good).1.files)) (cutD d r.ps r.good).1).1, [], [], (rmAll (staysOf r.ps) (sortS (namesF (cutD d r.ps r.good).1.files)) (cutD d r.ps r.good).1).2⟩ else
  ⟨(rmAll (staysOf r.ps) (sortS (namesF (cutD d r.ps r.good).1.files)) (cutD d r.ps r.good).1).1, r.es, r.ps, 0⟩
theorem mend_eq (d : Dsk) (r : ScanR) : mendWith d r = mendS d r := by unfold mendWith mendS; simp only [list_eq]
def d2S : Str := [100, 50]
def s2S : Str := [115, 50]
def pp : List Pc := [⟨[100, 50], 0, 2, true⟩, ⟨[115, 50], 2, 0, false⟩]
def pl : List Pc := [⟨[100, 50], 0, 2, false⟩, ⟨[115, 50], 2, 0, false⟩]
def p3 : List Pc := [⟨[100, 50], 0, 3, true⟩, ⟨[115, 50], 3, 0, false⟩]
def mB : List UInt8 := manifestB pp
def lB : List UInt8 := manifestB pl
def tB : List UInt8 := manifestB p3
def hB : List UInt8 := headB 2
def zB0 : List UInt8 := headB 0
def kB : List UInt8 := packB 0 [Ev.zero, Ev.zero]
def good : List (Str × List UInt8) := [(manifestS, mB), (d2S, kB), (s2S, hB ++ [1, 2, 3]), (nextS, []), ([121], [])]
def bad : Nat → List (Str × List UInt8)
  | 0 => [(manifestS, [])]
  | 1 => [(manifestS, mB)]
  | 2 => [(manifestS, mB), (d2S, kB)]
  | 3 => [(manifestS, mB), (s2S, hB)]
  | 4 => [(manifestS, mB), (d2S, kB), (s2S, zB0)]
  | 5 => [(manifestS, mB), (d2S, zB0), (s2S, hB)]
  | 6 => [(manifestS, lB), (d2S, kB), (s2S, hB)]
  | 7 => [(manifestS, lB), (d2S, zB0), (s2S, hB)]
  | 8 => [(manifestS, tB), (d2S, kB), (s2S, hB)]
  | _ => [(manifestS, mB), (d2S, kB), (s2S, hB.take 5)]
theorem bads : ((List.range 10).all fun i => decide ((scanD unpackB (madeD (bad i))).e = 14) && decide ((namesF (madeD (bad i)).files).length = (bad i).length)) = true := by decide +kernel
theorem bad_at (i : Nat) (hi : i < 10) : (scanD unpackB (madeD (bad i))).e = 14 ∧ (madeD (bad i)).list.length = (bad i).length := by
  have h := List.all_eq_true.1 bads i (List.mem_range.2 hi)
  unfold Dsk.list
  rw [List.length_mergeSort]
  simpa using h
theorem smalls : ((List.range 10).all fun i => decide ((bad i).length ≤ 1000) && (bad i).all fun x => decide (x.1.length ≤ 100) && decide (x.2.length ≤ 1000000)) = true := by decide +kernel
theorem bad_small (i : Nat) (hi : i < 10) : (bad i).length ≤ 1000 ∧ (∀ x ∈ bad i, x.1.length ≤ 100) ∧ ∀ x ∈ bad i, x.2.length ≤ 1000000 := by
  have h := List.all_eq_true.1 smalls i (List.mem_range.2 hi)
  simp only [Bool.and_eq_true, decide_eq_true_eq, List.all_eq_true] at h
  exact ⟨h.1, fun x hx => (h.2 x hx).1, fun x hx => (h.2 x hx).2⟩
theorem rights : rightL pp = true ∧ rightL pl = true ∧ rightL p3 = true := by decide +kernel
theorem lens : mB.length ≤ 1000 ∧ lB.length ≤ 1000 ∧ tB.length ≤ 1000 ∧ hB.length = 9 ∧ zB0.length ≤ 1000 ∧ kB.length ≤ 1000 := by decide +kernel
def sc : ScanR := scanD unpackB (madeD good)
def op : OpenR := openD unpackB (madeD good) 64
theorem sc_e : sc.e = 0 := by decide +kernel
theorem sc_es : sc.es.length = 2 := by decide +kernel
theorem sc_ps : sc.ps = pp := by kernel_rfl
theorem sc_li : (madeD good).list.length = 5 := by unfold Dsk.list; rw [List.length_mergeSort]; decide +kernel
def mc : MendR := mendS (madeD good) sc
theorem mc_eq : mendD unpackB (madeD good) = mc := mend_eq _ _
def oc : OpenR := ⟨(resumeD mc.d 64 mc.ps mc.es.length).1, onLg mc.d 64 mc.ps mc.es.length, mc.es, 0⟩
theorem oc_eq : op = oc := by
  unfold op openD
  rw [mc_eq]
  rw [if_neg (by decide), if_neg (by decide +kernel), if_neg (by decide +kernel), if_neg (by decide +kernel)]
  rfl
theorem op_e : op.e = 0 := by rw [oc_eq]; rfl
theorem op_es : op.es.length = 2 := by rw [oc_eq]; decide +kernel
theorem op_n : op.L.n = 2 ∧ op.L.acked = 2 := by rw [oc_eq]; decide +kernel
theorem op_sz : (fileOf op.d.files s2S).bytes.length = 9 := by rw [oc_eq]; decide +kernel
theorem op_li : op.d.list = [d2S, manifestS, s2S] := by rw [oc_eq, list_eq]; decide +kernel
def ar : Dsk := oc.d.armed 0
theorem ar_eq : op.d.armed 0 = ar := by rw [oc_eq]; rfl
def dn : Dsk := (ar.sync s2S).1
theorem dn_sc : (scanD unpackB dn).e = 15 ∧ (scanD unpackB dn).es.length = 0 ∧ (scanD unpackB dn).ps.length = 0 := by decide +kernel
theorem dn_me : (mendD unpackB dn).e = 15 ∧ (mendD unpackB dn).es.length = 0 ∧ (mendD unpackB dn).ps.length = 0 := by unfold mendD; rw [mend_eq]; decide +kernel
theorem open_size (d : Dsk) (z : Int) (h : z < 64 ∨ 16777216 < z) : openD unpackB d z = ⟨d, newLg z, [], 2⟩ := by unfold openD; rw [if_pos h]
end Go.Proofs.YtkhcdbafcigeoaaGreatDoor.RecoverNumbers
