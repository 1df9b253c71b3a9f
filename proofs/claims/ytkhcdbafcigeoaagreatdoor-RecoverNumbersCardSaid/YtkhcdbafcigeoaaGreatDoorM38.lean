/-
  Texts merged by a program of this claim's: RecCut, BuiltPlain, Aw6Plain, EndPlain.
-/
import Derived.Test.YtkhcdbafcigeoaaGreatDoorM37
import Derived.Test.YtkhcdbafcigeoaaGreatDoorM13
import Derived.Test.YtkhcdbafcigeoaaGreatDoorM7
namespace Go.Proofs.YtkhcdbafcigeoaaGreatDoor
open Go
def SegWh (q : Pc) (b : List UInt8) (es : List Ev) : Prop := ∃ fs, FrOk fs ∧ b = segB q.first.toNat fs ∧ es = fs.flatten ∧ q.count = es.length ∧ q.dense = false ∧ 0 ≤ q.first ∧ q.first ≤ 4611686018427387904 ∧ q.name = segName q.first.toNat
theorem seals_seg : SealsOk SegWh := fun _ fs hf hd hc h0 h1 h2 => ⟨fs, hf, rfl, rfl, hc, hd, h0, h1, h2⟩
section
variable {Wh Wh' : Pc → List UInt8 → List Ev → Prop} {U : List UInt8 → Int × List Ev × Int} {F F' : List (Str × DFile)} {l A : List Pc} {p q : Pc} {old told es all : List Ev} {fs : List (List Ev)} {t b : List UInt8} {m sure : Nat} {d : Dsk} {L : Lg}
theorem SegWh.whole (h : SegWh q b es) : WholeU U q b es := by
  obtain ⟨fs, h1, rfl, rfl, h2, h3, h4, h5, h6⟩ := h
  exact wholeU_of U q fs h1 h3 h2 h4 h5 h6
theorem sealedF_imp (hi : ∀ q b es, Wh q b es → Wh' q b es) : ∀ {A : List Pc} {es : List Ev}, sealedF Wh F A es → sealedF Wh' F A es
  | [], _, h => h
  | _ :: _, _, ⟨b, e1, e2, h1, h2, h3, h4⟩ => ⟨b, e1, e2, h1, hi _ _ _ h2, h3, sealedF_imp hi h4⟩
theorem TIn.imp (hi : ∀ q b es, Wh q b es → Wh' q b es) (h : TIn Wh F l A p old fs t m) : TIn Wh' F l A p old fs t m :=
  ⟨h.nd, h.l_, h.right, h.man, sealedF_imp hi h.old_, h.open_, h.m_, h.fr, h.torn, h.first, h.free, h.pname⟩
theorem Rt.imp (hi : ∀ q b es, Wh q b es → Wh' q b es) (h : Rt Wh F told sure) : Rt Wh' F told sure := by
  rcases h with h | ⟨l, A, p, old, fs, t, m, h, h1, h2⟩
  · exact .inl h
  · exact .inr ⟨l, A, p, old, fs, t, m, h.imp hi, h1, h2⟩
end
end Go.Proofs.YtkhcdbafcigeoaaGreatDoor

namespace Go.Proofs.YtkhcdbafcigeoaaGreatDoor
open Go
structure Bt (size : Int) (c : Nat) (d : Dsk) (L : Lg) (all : List Ev) : Prop where
  ak : Ak size c d L
  kin : KInv SegWh d.files L all
theorem Bt.new {size : Int} (hs : 64 ≤ size) (hs2 : size ≤ 16777216) : ∃ d, createD (newDsk 1048576) size = (d, 0) ∧ Bt size 0 d (newLg size) [] := by
  obtain ⟨d, h1, h2⟩ := Ak.new hs hs2
  exact ⟨d, h1, h2, KInv.new 1048576 (by omega) hs hs2 h1⟩
section
variable {size : Int} {c : Nat} {d : Dsk} {L : Lg} {all es : List Ev}
theorem Bt.add (h : Bt size c d L all) (hc : c < 60) (h1 : es.length ≠ 0) (h2 : es.length ≤ 30) (h3 : ∀ e ∈ es, e.Ok) : ∃ d' L', L.add d es = ⟨d', L', 0⟩ ∧ Bt size (c + 1) d' L' (all ++ es) := by
  obtain ⟨d', L', a1, a2, -, -⟩ := h.ak.add hc h1 h2
  have k := h.kin.add (d := d) seals_seg h3
  rw [a1, if_pos rfl] at k
  exact ⟨d', L', a1, a2, k⟩
theorem Bt.sync (h : Bt size c d L all) : ∃ d' L', L.sync d = ⟨d', L', 0⟩ ∧ Bt size c d' L' all := by
  obtain ⟨d', L', a1, a2, -, -⟩ := h.ak.sync
  have k := (h.kin.sync (d := d)).1
  rw [a1] at k
  exact ⟨d', L', a1, a2, k⟩
theorem Bt.len (h : Bt size c d L all) (hc : c ≤ 60) : L.n = all.length ∧ all.length ≤ 1800 := by
  have h1 := h.kin.le
  have h2 := h.ak.n
  omega
theorem Bt.calm (h : Bt size c d L all) : Calm d := by
  obtain ⟨A, p, hi, -⟩ := h.ak.inv
  exact hi.calm
end
def buildStep (sync : Int) (i : Nat) (s : Dsk × Lg × List Ev) (f : List Ev) : Dsk × Lg × List Ev :=
  if f.length = 0 ∨ 30 < f.length then s else
  if (i : Int) = sync then (((s.2.1.add s.1 f).L.sync (s.2.1.add s.1 f).d).d, ((s.2.1.add s.1 f).L.sync (s.2.1.add s.1 f).d).L, s.2.2 ++ f) else ((s.2.1.add s.1 f).d, (s.2.1.add s.1 f).L, s.2.2 ++ f)
theorem buildStep_plain {sync : Int} {i : Nat} {d d' : Dsk} {L L' : Lg} {x : Int} {all f : List Ev} (h1 : f.length ≠ 0) (h2 : f.length ≤ 30) (hs : (i : Int) ≠ sync) (ha : L.add d f = ⟨d', L', x⟩) : buildStep sync i (d, L, all) f = (d', L', all ++ f) := by
  unfold buildStep; rw [if_neg (by omega), if_neg hs]; simp only; rw [ha]
theorem buildStep_sync {sync : Int} {i : Nat} {d d' d'' : Dsk} {L L' L'' : Lg} {x y : Int} {all f : List Ev} (h1 : f.length ≠ 0) (h2 : f.length ≤ 30) (hs : (i : Int) = sync) (ha : L.add d f = ⟨d', L', x⟩) (hy : L'.sync d' = ⟨d'', L'', y⟩) : buildStep sync i (d, L, all) f = (d'', L'', all ++ f) := by
  unfold buildStep; rw [if_neg (by omega), if_pos hs]; simp only; rw [ha]; simp only; rw [hy]
theorem Bt.step {size sync : Int} {c i : Nat} {d : Dsk} {L : Lg} {all f : List Ev} (h : Bt size c d L all) (hc : c < 60) (h1 : f.length ≠ 0) (h2 : f.length ≤ 30) (h3 : ∀ e ∈ f, e.Ok) :
    ∃ d' L', L.add d f = ⟨d', L', 0⟩ ∧ Bt size (c + 1) d' L' (all ++ f) ∧ ((i : Int) ≠ sync → buildStep sync i (d, L, all) f = (d', L', all ++ f)) ∧
      ∃ d'' L'', L'.sync d' = ⟨d'', L'', 0⟩ ∧ Bt size (c + 1) d'' L'' (all ++ f) ∧ ((i : Int) = sync → buildStep sync i (d, L, all) f = (d'', L'', all ++ f)) := by
  obtain ⟨d', L', a1, a2⟩ := h.add hc h1 h2 h3
  obtain ⟨d'', L'', b1, b2⟩ := a2.sync
  exact ⟨d', L', a1, a2, fun hs => buildStep_plain h1 h2 hs a1, d'', L'', b1, b2, fun hs => buildStep_sync h1 h2 hs a1 b1⟩
theorem scan_new {U : List UInt8 → Int × List Ev × Int} (m : Int) : scanD U (newDsk m) = ⟨[], [], 0, 0⟩ := scan_no rfl (by simp [newDsk, namesF])
theorem mend_new {U : List UInt8 → Int × List Ev × Int} (m : Int) : mendD U (newDsk m) = ⟨newDsk m, [], [], 0⟩ := by
  have hl : (newDsk m).list = [] := by simp [newDsk, Dsk.list, namesF]
  have hc : cutD (newDsk m) [] 0 = (newDsk m, 0) := by unfold cutD; simp
  unfold mendD
  rw [scan_new]
  unfold mendWith
  simp only
  rw [hc, hl]
  simp [rmAll]
theorem open_new {U : List UInt8 → Int × List Ev × Int} {m size : Int} {d : Dsk} (hs : 64 ≤ size) (hs2 : size ≤ 16777216) (hc : createD (newDsk m) size = (d, 0)) : openD U (newDsk m) size = ⟨d, newLg size, [], 0⟩ := by
  unfold openD
  rw [mend_new]
  rw [if_neg (by omega), if_neg (by simp), if_pos (by rfl)]
  simp only
  rw [hc, if_neg (by simp)]
end Go.Proofs.YtkhcdbafcigeoaaGreatDoor

namespace Go.Proofs.YtkhcdbafcigeoaaGreatDoor
open Go
def evA (n : Int) : Ev := ⟨0, 0, 0, n, 0⟩
theorem intB2 : intB 2 = [4] := by unfold intB zig; rw [if_pos (by omega), uintB_small (by omega)]; rfl
theorem intB3 : intB 3 = [6] := by unfold intB zig; rw [if_pos (by omega), uintB_small (by omega)]; rfl
theorem frmA {n : Int} (h : n = 1 ∨ n = 2 ∨ n = 3) : (frmB [evA n]).length = 11 := by
  have w2 : w64 2 = 2 := by decide
  have w3 : w64 3 = 3 := by decide
  rcases h with rfl | rfl | rfl
  · exact frm_of (by simp [putE, evA, Ev.zero, w64_0, w64_1, intB0, intB1])
  · exact frm_of (by simp [putE, evA, Ev.zero, w64_0, w2, intB0, intB2])
  · exact frm_of (by simp [putE, evA, Ev.zero, w64_0, w3, intB0, intB3])
theorem evA_ok {n : Int} (h : in64 n) : (evA n).Ok := ⟨by unfold in64 evA; simp, by unfold in64 evA; simp, h, by unfold in64 evA; simp⟩
def f2 (a b : DFile) : List (Str × DFile) := [(segName 0, a), (manifestS, b)]
def manF : DFile := ⟨manifestB [pc0], (manifestB [pc0]).length⟩
theorem seg_man : ¬ segName 0 = manifestS := by rw [seg0_eq]; decide
theorem f2_set (a b c : DFile) : setF (f2 a b) (segName 0) c = f2 c b := by simp [f2, setF]
theorem f2_setM (a b c : DFile) : setF (f2 a b) manifestS c = f2 a c := by simp [f2, setF, seg_man]
theorem f2_file (a b : DFile) : fileOf (f2 a b) (segName 0) = a := by simp [f2, fileOf, getF]
theorem f2_man (a b : DFile) : fileOf (f2 a b) manifestS = b := by simp [f2, fileOf, getF, seg_man]
theorem right0 : RightP [] pc0 := ⟨by simp, rfl, segName_ok (by decide), by simp, rfl, rfl, rfl⟩
theorem man_len : (manifestB [pc0]).length ≤ 71 := by
  have := manifestB_le (l := [pc0]) ((rightL_iff [] _).2 right0)
  simpa using this
structure Sx (d : Dsk) (L : Lg) (fs : List (List Ev)) (m : Nat) : Prop where
  inv : LInv d L [] pc0
  most : d.most = 1000
  files : d.files = f2 ⟨segB 0 fs, (segB 0 (fs.take m)).length⟩ manF
  bytes : L.bytes = 9 + 11 * fs.length
  n : L.n = fs.length
  len : (segB 0 fs).length = 9 + 11 * fs.length
  size : L.size = 64
theorem Sx.new : ∃ d, createD (newDsk 1000) 64 = (d, 0) ∧ Sx d (newLg 64) [] 0 := by
  obtain ⟨F, h1, h2, h3, h4⟩ := create_calm' 1000 (by omega) (size := 64) (by omega) (by omega)
  exact ⟨_, h1, ⟨h2, rfl, by rw [h4]; simp [f2, segB, manF, newLg, pc0], by simp [newLg, head0], rfl, by simp [segB, head0], rfl⟩⟩
section
variable {d : Dsk} {L : Lg} {fs : List (List Ev)} {m : Nat}
theorem Sx.used (h : Sx d L fs m) : usedF d.files ≤ 80 + 11 * fs.length := by
  have := man_len
  have h2 := h.len
  rw [h.files]
  simp [usedF, f2, manF]
  omega
theorem Sx.add (h : Sx d L fs m) (hm : m ≤ fs.length) (hk : fs.length < 5) {e : Ev} (he : (frmB [e]).length = 11) : ∃ d' L', L.add d [e] = ⟨d', L', 0⟩ ∧ Sx d' L' (fs ++ [[e]]) m := by
  have hu := h.used
  obtain ⟨p1, p2, p3⟩ := put_calm h.inv [e] (by rw [he, h.most]; omega)
  refine ⟨_, _, (add_stay h.inv (by simp) (by simp) (fun hc => ?_)).trans p1, p2, h.most, ?_, ?_, ?_, ?_, h.size⟩
  · have h1 := h.bytes
    have h2 := h.size
    omega
  · simp only
    rw [h.files, show pc0.name = segName 0 from rfl, f2_file, f2_set]
    simp only
    rw [List.take_append_of_le_length hm]
    simp [segB]
  · simp only; rw [h.bytes, he, List.length_append]; simp; omega
  · simp [h.n]
  · rw [show segB 0 (fs ++ [[e]]) = segB 0 fs ++ frmB [e] by simp [segB], List.length_append, h.len, he, List.length_append]; simp; omega
theorem Sx.sync (h : Sx d L fs m) : ∃ d' L', L.sync d = ⟨d', L', 0⟩ ∧ Sx d' L' fs fs.length := by
  obtain ⟨p1, p2, p3⟩ := lsync_calm h.inv
  refine ⟨_, _, p1, p2, h.most, ?_, h.bytes, h.n, h.len, h.size⟩
  simp only
  rw [h.files, show pc0.name = segName 0 from rfl, f2_file, f2_set, List.take_length]
theorem Sx.list (h : Sx d L fs m) : d.list = [manifestS, [115, 48]] := by
  rw [list_eq, h.files]
  simp only [namesF, f2, List.map_cons, List.map_nil, seg0_eq]
  decide
end
def xF (e1 e2 e3 : Ev) : List (Str × DFile) := f2 ⟨segB 0 [[e1], [e2]] ++ (frmB [e3]).take 10, 41⟩ manF ++ [([120], ⟨[], 0⟩)]
theorem f2_leaves {a : DFile} {b : DFile} {j k : Int} : crashF [manifestS, segName 0] [j, k] (f2 a b) = f2 (leaves a k) (leaves b j) := by
  simp [crashF, f2_setM, f2_set, f2_file, f2_man]
section
variable {d : Dsk} {L : Lg} {e1 e2 e3 : Ev}
theorem Sx.crash (h : Sx d L [[e1], [e2], [e3]] 2) (h3 : (frmB [e3]).length = 11) : (d.crash [0, 10]).files = f2 ⟨segB 0 [[e1], [e2]] ++ (frmB [e3]).take 10, 41⟩ manF ∧ (segB 0 [[e1], [e2]]).length = 31 := by
  have hl := h.len
  have hs : segB 0 [[e1], [e2], [e3]] = segB 0 [[e1], [e2]] ++ frmB [e3] := by simp [segB]
  have h31 : (segB 0 [[e1], [e2]]).length = 31 := by rw [hs, List.length_append, h3] at hl; simp at hl; omega
  refine ⟨?_, h31⟩
  unfold Dsk.crash
  simp only
  rw [h.list, h.files, ← seg0_eq, f2_leaves]
  have l1 : leaves ⟨segB 0 [[e1], [e2], [e3]], (segB 0 ([[e1], [e2], [e3]].take 2)).length⟩ 10 = ⟨segB 0 [[e1], [e2]] ++ (frmB [e3]).take 10, 41⟩ := by
    unfold leaves
    rw [show ([[e1], [e2], [e3]] : List (List Ev)).take 2 = [[e1], [e2]] from rfl]
    simp only
    rw [hs, h31, List.length_append, h31, h3]
    simp only [show 31 + min (10 : Int).toNat (31 + 11 - 31) = 31 + 10 from rfl]
    rw [← h31, List.take_length_add_append, h31]
  rw [l1]
  congr 1
  exact leaves_self _ rfl
end
section
variable {U : List UInt8 → Int × List Ev × Int} {d : Dsk} {e1 e2 e3 : Ev}
theorem x_tin (h : d.files = xF e1 e2 e3) (h31 : (segB 0 [[e1], [e2]]).length = 31) (h3 : (frmB [e3]).length = 11) (o1 : e1.Ok) (o2 : e2.Ok) (o3 : e3.Ok) : TIn (WholeU U) d.files [pc0] [] pc0 [] [[e1], [e2]] ((frmB [e3]).take 10) 2 := by
  have hx : ¬ segName 0 = [120] := by rw [seg0_eq]; decide
  have hy : ¬ manifestS = [120] := by decide
  rw [h]
  refine ⟨?_, rfl, right0, ?_, rfl, ⟨41, ?_, ?_⟩, by simp, ?_, ?_, rfl, ?_, rfl⟩
  · simp [xF, f2, namesF, seg_man, hx, hy]
  · simp [xF, f2, fileOf, getF, seg_man, manF]
  · simp [xF, f2, fileOf, getF, pc0]
  · rw [show ([[e1], [e2]] : List (List Ev)).take 2 = [[e1], [e2]] from rfl, show pc0.first.toNat = 0 from rfl, h31]; omega
  · intro f hf
    simp only [List.mem_cons, List.not_mem_nil, or_false] at hf
    rcases hf with rfl | rfl
    · exact ⟨by simp, by simp, fun e he => by rw [List.mem_singleton] at he; subst he; exact o1⟩
    · exact ⟨by simp, by simp, fun e he => by rw [List.mem_singleton] at he; subst he; exact o2⟩
  · exact .inr ⟨[e3], 10, ⟨by simp, by simp, fun e he => by rw [List.mem_singleton] at he; subst he; exact o3⟩, by rw [h3]; omega, rfl⟩
  · intro k hk hm
    simp only [List.map_cons, List.map_nil, List.mem_singleton] at hm
    have := segName_inj hm
    subst this
    exact absurd hk (by decide)
theorem x_mend (hc : Calm d) (h : d.files = xF e1 e2 e3) (h31 : (segB 0 [[e1], [e2]]).length = 31) (h3 : (frmB [e3]).length = 11) (o1 : e1.Ok) (o2 : e2.Ok) (o3 : e3.Ok) :
    scanD U d = ⟨[e1, e2], [pc0], 31, 0⟩ ∧ mendD U d = ⟨{ d with files := f2 ⟨segB 0 [[e1], [e2]], 31⟩ manF }, [e1, e2], [pc0], 0⟩ := by
  have hx : ¬ segName 0 = [120] := by rw [seg0_eq]; decide
  have hy : ¬ manifestS = [120] := by decide
  have hs : scanD U d = ⟨[e1, e2], [pc0], 31, 0⟩ := by
    rw [(x_tin h h31 h3 o1 o2 o3).scan hc.up, show pc0.first.toNat = 0 from rfl, h31]
    simp
  refine ⟨hs, ?_⟩
  have h10 : ((frmB [e3]).take 10).length = 10 := by rw [List.length_take, h3]; rfl
  have hf : fileOf d.files (segName 0) = ⟨segB 0 [[e1], [e2]] ++ (frmB [e3]).take 10, 41⟩ := by rw [h]; simp [xF, f2, fileOf, getF]
  have hg : getF d.files (segName 0) = some ⟨segB 0 [[e1], [e2]] ++ (frmB [e3]).take 10, 41⟩ := by rw [h]; simp [xF, f2, getF]
  have hset : setF d.files (segName 0) ⟨segB 0 [[e1], [e2]], 31⟩ = f2 ⟨segB 0 [[e1], [e2]], 31⟩ manF ++ [([120], ⟨[], 0⟩)] := by rw [h]; simp [xF, f2, setF]
  have hcut : cutD d [pc0] 31 = ({ d with files := f2 ⟨segB 0 [[e1], [e2]], 31⟩ manF ++ [([120], ⟨[], 0⟩)] }, 0) := by
    unfold cutD
    rw [show (lastP [pc0]).name = segName 0 from rfl, hf]
    simp only
    rw [if_pos ⟨by simp, by rw [List.length_append, h31, h10]; omega⟩]
    unfold Dsk.cut Dsk.mayCut
    rw [hg]
    simp only
    rw [if_neg (by rw [List.length_append, h31, h10]; omega), op_calm hc, hf]
    simp only
    rw [show (31 : Int).toNat = 31 from rfl, List.take_append_of_le_length (by omega), List.take_of_length_le (by omega), hset]
  have hc2 : Calm { d with files := f2 ⟨segB 0 [[e1], [e2]], 31⟩ manF ++ [([120], (⟨[], 0⟩ : DFile))] } := hc.same _ (by simp [f2, namesF, seg_man, hx, hy])
  have hl : ({ d with files := f2 ⟨segB 0 [[e1], [e2]], 31⟩ manF ++ [([120], (⟨[], 0⟩ : DFile))] } : Dsk).list = [manifestS, segName 0, [120]] := by
    rw [list_eq]
    simp only [namesF, f2, List.map_cons, List.map_nil, List.cons_append, List.nil_append, seg0_eq]
    decide
  have hrem : ({ d with files := f2 ⟨segB 0 [[e1], [e2]], 31⟩ manF ++ [([120], (⟨[], 0⟩ : DFile))] } : Dsk).remove [120] = ({ d with files := f2 ⟨segB 0 [[e1], [e2]], 31⟩ manF }, 0) := by
    rw [remove_calm hc2 (by simp [f2, namesF])]
    simp [f2, delF, hx, hy]
  unfold mendD mendWith
  rw [hs]
  simp only
  rw [hcut]
  simp only
  rw [if_neg (by simp), if_neg (by simp), hl]
  have hst : staysOf [pc0] = [manifestS, segName 0] := rfl
  rw [hst]
  have hrm : rmAll [manifestS, segName 0] [manifestS, segName 0, [120]] ({ d with files := f2 ⟨segB 0 [[e1], [e2]], 31⟩ manF ++ [([120], (⟨[], 0⟩ : DFile))] } : Dsk) = ({ d with files := f2 ⟨segB 0 [[e1], [e2]], 31⟩ manF }, 0) := by
    unfold rmAll
    rw [if_pos (by simp)]
    unfold rmAll
    rw [if_pos (by simp)]
    unfold rmAll
    rw [if_neg (by simp only [List.mem_cons, List.not_mem_nil, or_false, not_or]; exact ⟨Ne.symm hy, Ne.symm hx⟩), hrem, if_neg (by simp)]
    rfl
  rw [hrm]
  simp
end
theorem bad_scan {U : List UInt8 → Int × List Ev × Int} : ∃ d, (newDsk 100).append manifestS [119, 104, 97, 116] = (d, 0) ∧ scanD U d = ⟨[], [], 0, 14⟩ ∧ (listedB (d.read manifestS).1).1 = [] := by
  have hc : Calm (newDsk 100) := ⟨rfl, rfl, by simp [newDsk, namesF]⟩
  refine ⟨_, append_calm hc (by decide) (by simp [newDsk, usedF]) (by simp [newDsk]), ?_⟩
  have hr : ({ newDsk 100 with files := setF (newDsk 100).files manifestS ⟨(fileOf (newDsk 100).files manifestS).bytes ++ [119, 104, 97, 116], (fileOf (newDsk 100).files manifestS).synced⟩ } : Dsk).read manifestS = ([119, 104, 97, 116], 0) := by rfl
  have hl : (listedB [119, 104, 97, 116]).2 = 12 := by rfl
  have hl1 : (listedB [119, 104, 97, 116]).1 = [] := by rfl
  refine ⟨?_, by rw [hr]; exact hl1⟩
  unfold scanD
  rw [hr]
  simp only
  rw [hl]
  simp
end Go.Proofs.YtkhcdbafcigeoaaGreatDoor

namespace Go.Proofs.YtkhcdbafcigeoaaGreatDoor
open Go
set_option maxRecDepth 100000
theorem frm_le30 {es : List Ev} (h : es.length ≤ 30) : (frmB es).length ≤ 1239 := by
  have := frameB_len (sum := sumB) (fun b => sumB_len b) es (by omega)
  have e : (frmB es).length = (frameB sumB es).length := rfl
  omega
structure Bk (z : Int) (c : Nat) (L : Lg) : Prop where
  some_ : L.l ≠ []
  len : L.l.length ≤ c + 1
  n : L.n ≤ 30 * c
  bytes : L.bytes ≤ 18 + c * 1239
  size : L.size = z
  last : 0 ≤ (lastP L.l).first
theorem Bk.new {z : Int} : Bk z 0 (newLg z) := by
  have hb : (headB 0).length ≤ 18 := headB_len (n := 0) (by omega)
  exact ⟨by simp [newLg], by simp [newLg], by simp [newLg], by simpa [newLg] using hb, rfl, by simp [newLg, lastP]⟩
section
variable {z : Int} {c : Nat} {d : Dsk} {L : Lg} {es : List Ev}
theorem Bk.mono {c' : Nat} (h : Bk z c L) (hc : c ≤ c') : Bk z c' L := ⟨h.some_, by have := h.len; omega, by have := h.n; omega, by have := h.bytes; have := Nat.mul_le_mul_right 1239 hc; omega, h.size, h.last⟩
theorem Bk.same {L' : Lg} (h : Bk z c L) (h1 : L'.l = L.l) (h2 : L'.n = L.n) (h3 : L'.bytes = L.bytes) (h4 : L'.size = L.size) : Bk z c L' :=
  ⟨by rw [h1]; exact h.some_, by rw [h1]; exact h.len, by rw [h2]; exact h.n, by rw [h3]; exact h.bytes, by rw [h4]; exact h.size, by rw [h1]; exact h.last⟩
theorem another_any (L : Lg) (d : Dsk) : (L.another d).L.over = L.over ∧ (L.another d).L.n = L.n ∧ (L.another d).L.size = L.size ∧
    (((L.another d).L.l = L.l ∧ (L.another d).L.bytes = L.bytes) ∨ ((L.another d).L.l = morePcs L ∧ (L.another d).L.bytes = (headB L.n).length)) := by
  unfold Lg.another
  repeat' split
  all_goals exact ⟨rfl, rfl, rfl, by first | exact .inl ⟨rfl, rfl⟩ | exact .inr ⟨rfl, rfl⟩⟩
theorem morePcs_len (h : L.l ≠ []) : (morePcs L).length = L.l.length + 1 := by
  have := List.length_pos_iff.2 h
  simp only [morePcs, List.length_append, List.length_dropLast, List.length_cons, List.length_nil]
  omega
theorem morePcs_last (L : Lg) : lastP (morePcs L) = ⟨segName L.n, L.n, 0, false⟩ := by
  unfold morePcs
  rw [show ∀ (a : List Pc) (x y : Pc), a ++ [x, y] = (a ++ [x]) ++ [y] by intro a x y; simp, lastP_snoc]
theorem Bk.roomed (h : Bk z c L) (hc : c ≤ 1000000) : (L.roomed d).L.over = L.over ∧ (L.roomed d).L.n = L.n ∧ (L.roomed d).L.bytes ≤ 18 + c * 1239 ∧ (L.roomed d).L.size = z ∧ (L.roomed d).L.l ≠ [] ∧ (L.roomed d).L.l.length ≤ c + 2 ∧ 0 ≤ (lastP (L.roomed d).L.l).first := by
  have hl := h.len
  have hs := h.some_
  unfold Lg.roomed
  split
  · obtain ⟨a1, a2, a3, ⟨a4, a5⟩ | ⟨a4, a5⟩⟩ := another_any L d
    · exact ⟨a1, a2, by rw [a5]; exact h.bytes, by rw [a3]; exact h.size, by rw [a4]; exact hs, by rw [a4]; omega, by rw [a4]; exact h.last⟩
    · have hh : (headB L.n).length ≤ 18 := headB_len (n := L.n) (by have := h.n; omega)
      refine ⟨a1, a2, by rw [a5]; omega, by rw [a3]; exact h.size, by rw [a4]; simp [morePcs], by rw [a4, morePcs_len hs]; omega, by rw [a4, morePcs_last]; simp⟩
  · exact ⟨rfl, rfl, h.bytes, h.size, hs, by simp only; omega, h.last⟩
theorem Bk.add (h : Bk z c L) (hc : c ≤ 1000000) (ho : L.over = false) (h1 : es.length ≠ 0) (h2 : es.length ≤ 30) : Bk z (c + 1) (L.add d es).L ∧ (L.add d es).L.over = decide ((L.add d es).e ≠ 0) := by
  obtain ⟨r1, r2, r3, r4, r5, r6, r7⟩ := h.roomed (d := d) hc
  have hf := frm_le30 h2
  have hn := h.n
  have hm : 18 + c * 1239 + 1239 = 18 + (c + 1) * 1239 := by rw [Nat.add_mul]; omega
  unfold Lg.add
  rw [if_neg (by rw [ho]; simp), if_neg h1, if_neg (by omega)]
  split
  · rename_i he
    exact ⟨⟨r5, r6, by simp only; omega, by simp only; omega, r4, r7⟩, by simp [he]⟩
  · rename_i he
    unfold Lg.put
    split
    · rename_i hp
      exact ⟨⟨r5, r6, by simp only; omega, by simp only; omega, r4, r7⟩, by simp [hp]⟩
    · exact ⟨⟨r5, r6, by simp only; omega, by simp only; omega, r4, r7⟩, by simp only; rw [r1, ho]; simp⟩
end
end Go.Proofs.YtkhcdbafcigeoaaGreatDoor
