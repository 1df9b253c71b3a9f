/-
  amanuensislaw02.DiskNumbers: the fixed examples of the chapter.
-/
import Derived.Test.YtihagdadbeoeoaaDoorHasX
import Derived.Test.YtihagdadbeoeoaaDoorFacts
import Derived.Test.YtihagdadbeoeoaaDoorAwake
import Derived.Test.YtihagdadbeoeoaaDoorClose
import Derived.Test.YtihagdadbeoeoaaDoorOpens
namespace Go.Proofs.YtihagdadbeoeoaaDoor.DiskNumbers
open Go Go.RowKit Go.Sort
set_option maxRecDepth 100000
set_option maxHeartbeats 3200000

/-! ### The first disk -/
def n0 : Dsk := newDsk 8
def n1 : Dsk := (n0.append [120] [97, 98, 99]).1
def n2 : Dsk := (n1.append [121] [49, 50, 51, 52, 53]).1
def n3 : Dsk := (n2.append [120] []).1
def n4 : Dsk := (n3.cut [120] 2).1
def n5 : Dsk := (n4.rename [120] [120]).1
def n6 : Dsk := n5.armed 0
def n7 : Dsk := (n6.rename [121] [120]).1
def n8 : Dsk := { n7 with files := crashF (sortS (namesF n7.files)) [9, 2] n7.files, arm := -1, down := false }
theorem d1 : n0.append [120] [97, 98, 99] = (n1, 0) := op_eq rfl (by decide +kernel)
theorem q1 : n1.read [120] = ([97, 98, 99], 0) := by decide +kernel
theorem same {d : Dsk} {may : Int} {act : List (Str × DFile) → List (Str × DFile)} (hd : d.down = false) (hm : may ≠ 0) : d.op may act = (d, may) := by simp [Dsk.op, hd, hm]
theorem d2 : n1.append [121] [49, 50, 51, 52, 53, 54] = (n1, 5) := by
  have e : n1.mayAppend [121] [49, 50, 51, 52, 53, 54] = 5 := by decide +kernel
  show n1.op _ _ = _
  rw [e]; exact same rfl (by decide)
theorem d3 : n1.append [121] [49, 50, 51, 52, 53] = (n2, 0) := op_eq rfl (by decide +kernel)
theorem d4 : n2.append [120] [49] = (n2, 5) := by
  have e : n2.mayAppend [120] [49] = 5 := by decide +kernel
  show n2.op _ _ = _
  rw [e]; exact same (by decide +kernel) (by decide)
theorem d5 : n2.append [120] [] = (n3, 0) := op_eq rfl (by decide +kernel)
theorem d6 : n3.cut [120] 4 = (n3, 2) := by
  have e : n3.mayCut [120] 4 = 2 := by decide +kernel
  show n3.op _ _ = _
  rw [e]; exact same (by decide +kernel) (by decide)
theorem d7 : n3.cut [120] (-1) = (n3, 2) := by
  have e : n3.mayCut [120] (-1) = 2 := by decide +kernel
  show n3.op _ _ = _
  rw [e]; exact same (by decide +kernel) (by decide)
theorem d8 : n3.cut [120] 2 = (n4, 0) := op_eq rfl (by decide +kernel)
theorem q2 : (fileOf n4.files [120]).synced = 2 := by decide +kernel
theorem d9 : n4.sync [113] = (n4, 13) := by
  have e : n4.there [113] = 13 := by decide +kernel
  show n4.op _ _ = _
  rw [e]; exact same (by decide +kernel) (by decide)
theorem d10 : n4.remove [113] = (n4, 13) := by
  have e : n4.there [113] = 13 := by decide +kernel
  show n4.op _ _ = _
  rw [e]; exact same (by decide +kernel) (by decide)
theorem d11 : n4.cut [113] 0 = (n4, 13) := by
  have e : n4.mayCut [113] 0 = 13 := by decide +kernel
  show n4.op _ _ = _
  rw [e]; exact same (by decide +kernel) (by decide)
theorem d12 : n4.rename [113] [120] = (n4, 13) := by
  have e : (if okName [120] then n4.there [113] else 13) = 13 := by decide +kernel
  show n4.op _ _ = _
  rw [e]; exact same (by decide +kernel) (by decide)
theorem d13 : n4.rename [120] [] = (n4, 13) := by
  have e : (if okName [] then n4.there [120] else 13) = 13 := by decide +kernel
  show n4.op _ _ = _
  rw [e]; exact same (by decide +kernel) (by decide)
theorem d14 : n4.rename [120] [120] = (n5, 0) := op_eq rfl (by decide +kernel)
theorem q3 : n5.read [120] = ([97, 98], 0) := by decide +kernel
theorem q4 : usedF n5.files = 7 := by decide +kernel
theorem bad {s : Str} (h : okName s = false) : n5.append s [] = (n5, 13) := by
  have e : n5.mayAppend s [] = 13 := by simp [Dsk.mayAppend, h]
  show n5.op _ _ = _
  rw [e]; exact same (by decide +kernel) (by decide)
theorem d15 : n5.armed 0 = n6 := rfl
theorem d16 : n6.append [121] [122, 122, 122, 122, 122] = (n6, 5) := by
  have e : n6.mayAppend [121] [122, 122, 122, 122, 122] = 5 := by decide +kernel
  show n6.op _ _ = _
  rw [e]; exact same (by decide +kernel) (by decide)
theorem d17 : n6.rename [121] [120] = (n7, 15) := op_eq rfl (by decide +kernel)
theorem dn7 : n7.down = true := by decide +kernel
theorem d18 : n7.armed 5 = n7 := by unfold Dsk.armed; rw [if_pos dn7]
theorem d19 : n7.sync [120] = (n7, 15) := by
  show n7.op _ _ = _
  simp [Dsk.op, dn7]
theorem q5 : n7.list = [[120], [121]] := by rw [list_eq]; decide +kernel
theorem d20 : n7.crash [9, 2] = n8 := crash_eq _ _
theorem q6 : n8.read [120] = ([97, 98], 0) ∧ n8.read [121] = ([49, 50], 0) := by decide +kernel

/-! ### The second disk: two hundred files -/
def fname (i : Nat) : Str := 102 :: (List.replicate (i / 10) 48 ++ [UInt8.ofNat (97 + i % 10)])
def nd (k : Nat) : Dsk := { newDsk 1000 with files := (List.range k).map fun i => (fname i, ⟨[], 0⟩) }
theorem fname_ok : ∀ i : Fin 200, okName (fname i) = true := by decide +kernel
theorem fname_len : ∀ i : Fin 200, (fname i).length ≤ 40 := by decide +kernel
theorem fname_inj {i j : Nat} (h : fname i = fname j) : i = j := by
  simp only [fname, List.cons.injEq, true_and] at h
  have h1 := List.append_inj' h rfl
  have h2 := congrArg List.length h1.1
  simp only [List.length_replicate] at h2
  have h3 := List.singleton_inj.1 h1.2
  have h4 := congrArg UInt8.toNat h3
  rw [UInt8.toNat_ofNat', UInt8.toNat_ofNat'] at h4
  omega
theorem nd_names (k : Nat) : namesF (nd k).files = (List.range k).map fname := by simp [namesF, nd, List.map_map, Function.comp_def]
theorem sum_zero {α : Type} : ∀ l : List α, (l.map fun _ => 0).sum = 0
  | [] => rfl
  | _ :: l => by simp [sum_zero l]
theorem nd_used (k : Nat) : usedF (nd k).files = 0 := by
  simp only [usedF, nd, List.map_map, Function.comp_def, List.length_nil]
  exact sum_zero _
theorem nd_new {k : Nat} : fname k ∉ namesF (nd k).files := by
  rw [nd_names]
  intro h
  obtain ⟨i, hi, e⟩ := List.mem_map.1 h
  have := fname_inj e
  have := List.mem_range.1 hi
  omega
theorem nd_succ {k : Nat} (hk : k < 200) : (nd k).append (fname k) [] = (nd (k + 1), 0) := by
  have hok : okName (fname k) = true := fname_ok ⟨k, hk⟩
  have hm : (nd k).mayAppend (fname k) [] = 0 := by
    unfold Dsk.mayAppend
    rw [if_pos hok, nd_used, if_neg]
    rintro (h | ⟨-, h⟩)
    · exact absurd h (by simp [nd, newDsk])
    · simp [nd] at h; omega
  show (nd k).op _ _ = _
  rw [hm]
  have hf : fileOf (nd k).files (fname k) = ⟨[], 0⟩ := by unfold fileOf; rw [(getF_none _ _).2 nd_new]; rfl
  simp only [Dsk.op]
  rw [if_neg (by simp [nd, newDsk]), if_neg (by decide), if_neg (by simp [nd, newDsk])]
  simp only [hf, List.append_nil]
  rw [setF_miss nd_new]
  simp [nd, newDsk, List.range_succ]
  decide
def nf : Dsk := { nd 200 with files := setF (nd 200).files [102, 97] ⟨[49], 0⟩ }
theorem fa : fname 0 = [102, 97] := by decide +kernel
theorem in0 : [102, 97] ∈ namesF (nd 200).files := by
  rw [nd_names, ← fa]
  exact List.mem_map_of_mem (by simp)
theorem e1 : (nd 200).append [122] [] = (nd 200, 5) := by
  have hz : ([122] : Str) ∉ namesF (nd 200).files := by
    rw [nd_names]
    intro h
    obtain ⟨i, -, e⟩ := List.mem_map.1 h
    simp [fname] at e
  have e : (nd 200).mayAppend [122] [] = 5 := by
    unfold Dsk.mayAppend
    rw [if_pos (by decide), if_pos (.inr ⟨hz, by simp [nd]⟩)]
  show (nd 200).op _ _ = _
  rw [e]; exact same rfl (by decide)
theorem e2 : (nd 200).append [102, 97] [49] = (nf, 0) := by
  have hm : (nd 200).mayAppend [102, 97] [49] = 0 := by
    unfold Dsk.mayAppend
    rw [if_pos (by decide), nd_used, if_neg]
    rintro (h | ⟨h, -⟩)
    · exact absurd h (by simp [nd, newDsk])
    · exact h in0
  have hf : fileOf (nd 200).files [102, 97] = ⟨[], 0⟩ := by
    have : (([102, 97] : Str), (⟨[], 0⟩ : DFile)) ∈ (nd 200).files := by
      rw [← fa]; simp only [nd]; exact List.mem_map_of_mem (f := fun i => (fname i, (⟨[], 0⟩ : DFile))) (a := 0) (by simp)
    have hn : (namesF (nd 200).files).Nodup := by
      rw [nd_names]
      exact List.nodup_range.map (f := fname) (fun a b hne h => hne (fname_inj h))
    unfold fileOf; rw [getF_mem hn this]; rfl
  show (nd 200).op _ _ = _
  rw [hm]
  simp only [Dsk.op]
  rw [if_neg (by simp [nd, newDsk]), if_neg (by decide), if_neg (by simp [nd, newDsk])]
  simp only [hf]
  simp [nf, nd, newDsk]
  decide
theorem nf_len : nf.files.length = 200 := by
  have h1 : namesF nf.files = namesF (nd 200).files := namesF_setF in0
  have h2 := congrArg List.length h1
  simpa [namesF, nd] using h2
theorem e3 : nf.append (List.replicate 40 97) [] = (nf, 5) := by
  have hz : (List.replicate 40 97 : Str) ∉ namesF nf.files := by
    rw [show namesF nf.files = namesF (nd 200).files from namesF_setF in0, nd_names]
    intro h
    obtain ⟨i, -, e⟩ := List.mem_map.1 h
    have := congrArg List.head? e
    simp [fname] at this
  have e : nf.mayAppend (List.replicate 40 97) [] = 5 := by
    unfold Dsk.mayAppend
    rw [if_pos (by decide +kernel), if_pos (.inr ⟨hz, Nat.le_of_eq nf_len.symm⟩)]
  show nf.op _ _ = _
  rw [e]; exact same rfl (by decide)
theorem nf_list : nf.list.length = 200 := by
  rw [show nf.list.length = (namesF nf.files).length from (List.mergeSort_perm _ _).length_eq]
  simpa [namesF] using nf_len
theorem dig0 (w : World) : (Instr.slice 9 (.string ⟨#[97, 98, 99, 100, 101, 102, 103, 104, 105, 106]⟩) (some (.int .i64 0)) (some (.int .i64 1)) none).run Tryd.prog w = .ok (.string ⟨#[97]⟩) w := by kernel_rfl
theorem dig1 (w : World) : (Instr.slice 9 (.string ⟨#[97, 98, 99, 100, 101, 102, 103, 104, 105, 106]⟩) (some (.int .i64 1)) (some (.int .i64 2)) none).run Tryd.prog w = .ok (.string ⟨#[98]⟩) w := by kernel_rfl
theorem dig2 (w : World) : (Instr.slice 9 (.string ⟨#[97, 98, 99, 100, 101, 102, 103, 104, 105, 106]⟩) (some (.int .i64 2)) (some (.int .i64 3)) none).run Tryd.prog w = .ok (.string ⟨#[99]⟩) w := by kernel_rfl
theorem dig3 (w : World) : (Instr.slice 9 (.string ⟨#[97, 98, 99, 100, 101, 102, 103, 104, 105, 106]⟩) (some (.int .i64 3)) (some (.int .i64 4)) none).run Tryd.prog w = .ok (.string ⟨#[100]⟩) w := by kernel_rfl
theorem dig4 (w : World) : (Instr.slice 9 (.string ⟨#[97, 98, 99, 100, 101, 102, 103, 104, 105, 106]⟩) (some (.int .i64 4)) (some (.int .i64 5)) none).run Tryd.prog w = .ok (.string ⟨#[101]⟩) w := by kernel_rfl
theorem dig5 (w : World) : (Instr.slice 9 (.string ⟨#[97, 98, 99, 100, 101, 102, 103, 104, 105, 106]⟩) (some (.int .i64 5)) (some (.int .i64 6)) none).run Tryd.prog w = .ok (.string ⟨#[102]⟩) w := by kernel_rfl
theorem dig6 (w : World) : (Instr.slice 9 (.string ⟨#[97, 98, 99, 100, 101, 102, 103, 104, 105, 106]⟩) (some (.int .i64 6)) (some (.int .i64 7)) none).run Tryd.prog w = .ok (.string ⟨#[103]⟩) w := by kernel_rfl
theorem dig7 (w : World) : (Instr.slice 9 (.string ⟨#[97, 98, 99, 100, 101, 102, 103, 104, 105, 106]⟩) (some (.int .i64 7)) (some (.int .i64 8)) none).run Tryd.prog w = .ok (.string ⟨#[104]⟩) w := by kernel_rfl
theorem dig8 (w : World) : (Instr.slice 9 (.string ⟨#[97, 98, 99, 100, 101, 102, 103, 104, 105, 106]⟩) (some (.int .i64 8)) (some (.int .i64 9)) none).run Tryd.prog w = .ok (.string ⟨#[105]⟩) w := by kernel_rfl
theorem dig9 (w : World) : (Instr.slice 9 (.string ⟨#[97, 98, 99, 100, 101, 102, 103, 104, 105, 106]⟩) (some (.int .i64 9)) (some (.int .i64 10)) none).run Tryd.prog w = .ok (.string ⟨#[106]⟩) w := by kernel_rfl
theorem digit (r : Nat) (h : r ≤ 9) (w : World) : (Instr.slice 9 (.string ⟨#[97, 98, 99, 100, 101, 102, 103, 104, 105, 106]⟩) (some (.int .i64 r)) (some (.int .i64 ((r : Int) + 1))) none).run Tryd.prog w = .ok (.string ⟨#[UInt8.ofNat (97 + r)]⟩) w := by
  have hc : r = 0 ∨ r = 1 ∨ r = 2 ∨ r = 3 ∨ r = 4 ∨ r = 5 ∨ r = 6 ∨ r = 7 ∨ r = 8 ∨ r = 9 := by omega
  rcases hc with rfl | rfl | rfl | rfl | rfl | rfl | rfl | rfl | rfl | rfl
  · exact dig0 w
  · exact dig1 w
  · exact dig2 w
  · exact dig3 w
  · exact dig4 w
  · exact dig5 w
  · exact dig6 w
  · exact dig7 w
  · exact dig8 w
  · exact dig9 w
theorem str3 (a b c : List UInt8) : ((⟨a.toArray⟩ : ByteArray) ++ ⟨b.toArray⟩ ++ ⟨c.toArray⟩) = ⟨(a ++ (b ++ c)).toArray⟩ := by
  apply ByteArray.ext
  simp [ByteArray.data_append]
theorem repeatL_one (c : UInt8) : ∀ n, Lib.repeatL [c] n = List.replicate n c
  | 0 => rfl
  | n + 1 => by simp [Lib.repeatL, repeatL_one c n, List.replicate_succ]
theorem repeat_ok (w : World) (c : UInt8) (n : Nat) (h : n ≤ 1000) {r : List UInt8} (hr : List.replicate n c = r) : Calls Tryd.prog 48 #[.string ⟨#[c]⟩, .int .i64 n] w fun e w' => e = .returned (.string ⟨r.toArray⟩) ∧ Nw w w' := by
  subst hr
  refine (Tryd.strings_Repeat ⟨#[c]⟩ n w (by omega) (by show 1 * n ≤ _; omega)).mono ?_
  rintro e w' ⟨he, hb⟩
  refine ⟨?_, Nw.of_below hb⟩
  rw [he]
  show Ending.returned (.string ⟨(Lib.repeatL [c] n).toArray⟩) = _
  rw [repeatL_one]


theorem walk (w : World) : Calls Tryd.prog 12 #[] w fun e w' => e = .returned (.bool true) ∧ Nw w w' := by
  have AW := Lib.hid (fun w => awake_ok w)
  have kc := fun (w : World) (C : Array Value) (n c : Nat) => Go.Lib.run_convert_bytes_const (P := Tryd.prog) w 29 5 C n c Tryd.underlying29 Tryd.underlying5
  go_enter Tryd.func12, Tryd.ntmps12
  go_wp2_with fail
  refine (New_no (-1) w (by omega)).mono ?_
  rintro e w' ⟨rfl, rfl⟩
  go_wp2_with fail
  refine (New_no 16777217 w (by omega)).mono ?_
  rintro e w' ⟨rfl, rfl⟩
  go_wp2_with fail
  refine (Has.new 16777216 w (by omega) (by omega)).mono ?_
  rintro e w1 ⟨b0, rfl, H0⟩
  have N1 := Lib.hid H0.base
  clear H0
  go_wp2_with fail
  refine (HasX.new 8 w1 (by omega) (by omega)).mono ?_
  rintro e w2 ⟨b, rfl, H2⟩
  have hle := H2.base.size
  have H2 : Hid (HasX (fun k => k = w2.heap.size) w1 (w2.alloc (.cells #[.int .u8 97, .int .u8 98, .int .u8 99] 5 (3, 4))) b n0) := Lib.hid (H2.nwY ((Nw.refl w2).alloc _) (fun k hk => .inr ⟨Nat.le_of_eq hk.symm, by subst hk; simp⟩))
  go_wp2_with fail
  refine (H2.out.append [120] [97, 98, 99] _ (rd_lit w2 _ _ _ _ 3 rfl (by decide) (by decide)) (fun _ g hg => .inl (Option.some.inj hg).symm) (by decide) (by decide) d1).mono ?_
  rintro e w3 ⟨rfl, H3, K3⟩
  have hB : w3.heap[w2.heap.size]? = some (.cells #[.int .u8 97, .int .u8 98, .int .u8 99] 5 (3, 4)) := (K3.2 _ rfl (by simp)).trans (heap_alloc_new w2 _)
  have hB0 : w3.cell? ⟨w2.heap.size, 0, none⟩ = some (.int .u8 97) := by simp [World.cell?, hB]
  have hBf : w3.frozen? ⟨w2.heap.size, 0, none⟩ = false := by simp [World.frozen?, hB]
  have H3 : Hid (HasX (fun _ => False) w1 (w3.setCell ⟨w2.heap.size, 0, none⟩ (.int .u8 122)) b n1) := Lib.hid (H3.put (Z := fun k => k = w2.heap.size) (Only.setCell (S := fun k => k = w2.heap.size) (Only.refl w3) (fun _ => rfl) _) (fun k hk _ => ⟨hk, by subst hk; exact hle⟩) (fun _ hf => hf.elim))
  clear K3 hB H2 hle
  go_wp2_with fail
  refine (H3.out.read [120] q1).mono ?_
  rintro e w4 ⟨v4, rfl, o4, n4, g4⟩
  rcases o4 with ⟨-, hnil⟩ | ⟨g, cap, cur, rfl, hc1, hc2, hc3, hc4, hc5⟩
  · cases hnil
  have hx1 : w4.cell? ⟨g, 1, none⟩ = some (.int .u8 98) := RowF.cells hc1 hc5 1 (by decide)
  have hxf : w4.frozen? ⟨g, 1, none⟩ = false := by simp [World.frozen?, hc1]
  have H4 : Hid (Has w1 (w4.setCell ⟨g, 1, none⟩ (.int .u8 122)) b n1) := Lib.hid (((H3.out.nwY (Y := fun k => k = g) n4 (fun k hk => .inr ⟨by subst hk; exact g4 _ rfl, by subst hk; exact lt_of_block hc1⟩)).put (Z := fun k => k = g) (Y := fun _ => False) (Only.setCell (S := fun k => k = g) (Only.refl w4) (fun _ => rfl) _) (fun k hk _ => ⟨hk, by subst hk; exact Nat.le_trans H3.out.base.size (g4 _ rfl)⟩) (fun _ hf => hf.elim)).has)
  clear n4 g4 hc1 hc2 hc3 hc4 hc5 hB0 hBf
  simp only [List.length_cons, List.length_nil] at *

  go_wp2_with fail
  refine (H4.out.reads [120] [97, 98, 99] q1).mono ?_
  rintro e w5 ⟨rfl, H5⟩
  have H5 := Lib.hid H5
  clear H4

  go_wp2_with fail
  refine (H5.out.append' [121] [49, 50, 51, 52, 53, 54] _ _ (rd_lit _ _ _ _ _ 6 rfl (by decide) (by decide)) (.inr rfl) (by decide) (by decide) d2).mono ?_
  rintro e w6 ⟨rfl, H6⟩
  have H6 := Lib.hid H6
  clear H5

  go_wp2_with fail
  refine (H6.out.append' [121] [49, 50, 51, 52, 53] _ _ (rd_lit _ _ _ _ _ 5 rfl (by decide) (by decide)) (.inr rfl) (by decide) (by decide) d3).mono ?_
  rintro e w7 ⟨rfl, H7⟩
  have H7 := Lib.hid H7
  clear H6

  go_wp2_with fail
  refine (H7.out.append' [120] [49] _ _ (rd_lit _ _ _ _ _ 1 rfl (by decide) (by decide)) (.inr rfl) (by decide) (by decide) d4).mono ?_
  rintro e w8 ⟨rfl, H8⟩
  have H8 := Lib.hid H8
  clear H7

  go_wp2_with fail
  refine (H8.out.append [120] [] (.slice none 0 0) (.inl ⟨_, rfl, rfl⟩) (by decide) (by decide) d5).mono ?_
  rintro e w9 ⟨rfl, H9⟩
  have H9 := Lib.hid H9
  clear H8

  go_wp2_with fail
  refine (H9.out.cut [120] 4 d6).mono ?_
  rintro e w10 ⟨rfl, H10⟩
  have H10 := Lib.hid H10
  clear H9

  go_wp2_with fail
  refine (H10.out.cut [120] (-1) d7).mono ?_
  rintro e w11 ⟨rfl, H11⟩
  have H11 := Lib.hid H11
  clear H10

  go_wp2_with fail
  refine (H11.out.cut [120] 2 d8).mono ?_
  rintro e w12 ⟨rfl, H12⟩
  have H12 := Lib.hid H12
  clear H11

  go_wp2_with fail
  refine (H12.out.synced [120] q2).mono ?_
  rintro e w13 ⟨rfl, H13⟩
  have H13 := Lib.hid H13
  clear H12

  go_wp2_with fail
  refine (H13.out.sync [113] d9).mono ?_
  rintro e w14 ⟨rfl, H14⟩
  have H14 := Lib.hid H14
  clear H13

  go_wp2_with fail
  refine (H14.out.remove [113] d10).mono ?_
  rintro e w15 ⟨rfl, H15⟩
  have H15 := Lib.hid H15
  clear H14

  go_wp2_with fail
  refine (H15.out.cut [113] 0 d11).mono ?_
  rintro e w16 ⟨rfl, H16⟩
  have H16 := Lib.hid H16
  clear H15

  go_wp2_with fail
  refine (H16.out.rename [113] [120] (by decide) d12).mono ?_
  rintro e w17 ⟨rfl, H17⟩
  have H17 := Lib.hid H17
  clear H16

  go_wp2_with fail
  refine (H17.out.rename [120] [] (by decide) d13).mono ?_
  rintro e w18 ⟨rfl, H18⟩
  have H18 := Lib.hid H18
  clear H17

  go_wp2_with fail
  refine (H18.out.rename [120] [120] (by decide) d14).mono ?_
  rintro e w19 ⟨rfl, H19⟩
  have H19 := Lib.hid H19
  clear H18

  go_wp2_with fail
  refine (H19.out.reads [120] [97, 98] q3).mono ?_
  rintro e w20 ⟨rfl, H20⟩
  have H20 := Lib.hid H20
  clear H19

  go_wp2_with fail
  refine (H20.out.used q4).mono ?_
  rintro e w21 ⟨rfl, H21⟩
  have H21 := Lib.hid H21
  clear H20

  obtain ⟨r41, hr41⟩ : ∃ r : List UInt8, List.replicate 41 97 = r := ⟨_, rfl⟩
  have R41 := Lib.hid hr41
  clear hr41
  go_wp2_with fail
  refine (repeat_ok _ 97 41 (by decide) R41.out).mono ?_
  rintro e w30 ⟨rfl, n30⟩
  have H30 := Lib.hid (H21.out.nw n30).hasX
  clear n30 H21
  obtain ⟨ss, hss⟩ : ∃ ss : List Str, [[], [65], [97, 32, 98], [97, 47, 98], [97, 95, 98], [255], r41] = ss := ⟨_, rfl⟩
  have hbad : ∀ s ∈ ss, okName s = false ∧ s.length ≤ 41 := by
    rw [← hss, ← R41.out]; decide +kernel
  have hlen : ss.length = 7 := by rw [← hss]; rfl
  have X31 : Hid (HasX (fun k => k = w30.heap.size) w1 (w30.alloc (.cells #[.string ⟨#[]⟩, .string ⟨#[65]⟩, .string ⟨#[97, 32, 98]⟩, .string ⟨#[97, 47, 98]⟩, .string ⟨#[97, 95, 98]⟩, .string ⟨#[255]⟩, .string ⟨r41.toArray⟩] 9)) b n5) := Lib.hid (H30.out.nwY ((Nw.refl w30).alloc _) (fun k hk => .inr ⟨Nat.le_of_eq hk.symm, by subst hk; simp⟩))
  have L31 : Hid (Rd encStr (w30.alloc (.cells #[.string ⟨#[]⟩, .string ⟨#[65]⟩, .string ⟨#[97, 32, 98]⟩, .string ⟨#[97, 47, 98]⟩, .string ⟨#[97, 95, 98]⟩, .string ⟨#[255]⟩, .string ⟨r41.toArray⟩] 9)) (.slice (some ⟨w30.heap.size, 0, none⟩) 7 7) ss) := Lib.hid (by
    rw [← hlen]
    exact rd_lit (f := encStr) w30 _ _ ss _ ss.length (by rw [← hss]; rfl) (Nat.le_refl _) (by rw [hlen]; decide))
  have HBAD := Lib.hid hbad
  have HLEN := Lib.hid hlen
  clear hss hbad hlen H30
  go_wp2
  generalize (w30.alloc (.cells #[.string ⟨#[]⟩, .string ⟨#[65]⟩, .string ⟨#[97, 32, 98]⟩, .string ⟨#[97, 47, 98]⟩, .string ⟨#[97, 95, 98]⟩, .string ⟨#[255]⟩, .string ⟨r41.toArray⟩] 9)) = W31 at X31 L31 ⊢
  go_loopw [158] (fun i wr => ∃ k : Nat, k ≤ 7 ∧ i = .int .i64 k ∧ HasX (fun k => k = w30.heap.size) w1 wr b n5 ∧ Kept (fun k => k = w30.heap.size) W31 wr) (fun i _ => 7 - (intOf i).toNat)
  case atStart => exact ⟨0, by omega, rfl, X31.out, Kept.refl _⟩
  case round =>
    obtain ⟨k, hk, rfl, hX, hK⟩ := hrel
    have HX := Lib.hid hX
    have HK := Lib.hid hK
    clear hX hK
    by_cases hlt : k < 7
    · have hk7 : k < ss.length := by rw [HLEN.out]; exact hlt
      obtain ⟨sc, hsc, hok, hln⟩ : ∃ s : Str, wr.cell? ⟨w30.heap.size, 0 + k, none⟩ = some (.string ⟨s.toArray⟩) ∧ okName s = false ∧ s.length ≤ 41 := by
        obtain ⟨a9, c9, h1, h2, h3, h4⟩ := L31.out.elems
        obtain ⟨g9, o9, e9, -, hc9⟩ := h4 k hk7
        rw [e9] at h1
        simp only [Value.slice.injEq, Option.some.injEq, Addr.mk.injEq] at h1
        obtain ⟨⟨rfl, rfl, -⟩, -, -⟩ := h1
        exact ⟨ss[k], HK.out.cell hc9 rfl, HBAD.out _ (List.getElem_mem hk7)⟩
      simp only [Nat.zero_add] at hsc
      have HOK := Lib.hid hok
      clear hok hk7
      go_wp2_with fail
      refine (HX.out.append sc [] (.slice none 0 0) (.inl ⟨_, rfl, rfl⟩) (fun h => absurd rfl h) (by omega) (by decide) (bad HOK.out)).mono ?_
      rintro e w32 ⟨rfl, h32, k32⟩
      have X32 := Lib.hid h32
      have K32 := Lib.hid (HK.out.trans k32)
      clear h32 k32 hsc
      go_wp2
      go_roundw
      case rel => exact ⟨k + 1, by omega, by go_num, X32.out, K32.out⟩
      case measure => simp [intOf]; omega
    · have H32 := Lib.hid HX.out.has
      clear HX HK X31 L31

      go_wp2_with fail
      refine (H32.out.arm 0 (by decide) d15).mono ?_
      rintro e w33 ⟨rfl, H33⟩
      have H33 := Lib.hid H33
      clear H32
      go_wp2_with fail
      refine (H33.out.append' [121] [122, 122, 122, 122, 122] _ _ (rd_lit _ _ _ _ _ 5 rfl (by decide) (by decide)) (.inr rfl) (by decide) (by decide) d16).mono ?_
      rintro e w34 ⟨rfl, H34⟩
      have H34 := Lib.hid H34
      clear H33
      go_wp2_with fail
      refine (H34.out.rename [121] [120] (by decide) d17).mono ?_
      rintro e w35 ⟨rfl, H35⟩
      have H35 := Lib.hid H35
      clear H34
      go_wp2_with fail
      refine (H35.out.arm 5 (by decide) d18).mono ?_
      rintro e w36 ⟨rfl, H36⟩
      have H36 := Lib.hid H36
      clear H35
      go_wp2_with fail
      refine (H36.out.sync [120] d19).mono ?_
      rintro e w37 ⟨rfl, H37⟩
      have H37 := Lib.hid H37
      clear H36
      go_wp2_with fail
      refine (H37.out.list q5).mono ?_
      rintro e w40 ⟨v40, rfl, hv40, H40, -⟩
      have V40 := Lib.hid hv40
      have H40 := Lib.hid H40
      clear hv40 H37
      go_wp2_with fail
      refine (SameTexts_ok (V40.out.nw ((Nw.refl w40).alloc _)) (rd_lit (f := encStr) w40 _ _ [[120], [121]] _ 2 rfl (by decide) (by decide))).mono ?_
      rintro e w41 ⟨rfl, n41⟩
      have H41 := Lib.hid ((H40.out.nw ((Nw.refl w40).alloc _)).nw n41)
      clear n41 V40 H40
      go_wp2_with fail
      refine (H41.out.down dn7).mono ?_
      rintro e w42 ⟨rfl, H42⟩
      have H42 := Lib.hid H42
      clear H41
      go_wp2_with fail
      refine (H42.out.crash' _ [9, 2] _ (rd_lit _ _ _ _ _ 2 rfl (by decide) (by decide)) (.inr rfl) d20).mono ?_
      rintro e w43 ⟨rfl, H43⟩
      have H43 := Lib.hid H43
      clear H42
      go_wp2_with fail
      refine (H43.out.reads [120] [97, 98] q6.1).mono ?_
      rintro e w44 ⟨rfl, H44⟩
      have H44 := Lib.hid H44
      clear H43
      go_wp2_with fail
      refine (H44.out.reads [121] [49, 50] q6.2).mono ?_
      rintro e w45 ⟨rfl, H45⟩
      have H45 := Lib.hid H45
      clear H44
      have N45 := Lib.hid (N1.out.trans H45.out.base)
      clear H45 N1
      go_wp2_with fail
      refine (Has.new 1000 _ (by omega) (by omega)).mono ?_
      rintro e w46 ⟨b2, rfl, H46⟩
      have H46 := Lib.hid H46
      clear hlt hk
      go_wp2
      go_loopw [23] (fun i wr => ∃ k : Nat, k ≤ 200 ∧ i = .int .i64 k ∧ Has w45 wr b2 (nd k)) (fun i _ => 200 - (intOf i).toNat)
      case atStart => exact ⟨0, by omega, rfl, H46.out⟩
      case round =>
        obtain ⟨k, hk, rfl, hH⟩ := hrel
        have HH := Lib.hid hH
        clear hH
        by_cases hlt : k < 200
        · obtain ⟨q, hq, hq1⟩ : ∃ q : Nat, k / 10 = q ∧ q ≤ 19 := ⟨_, rfl, by omega⟩
          obtain ⟨r, hr, hr1⟩ : ∃ r : Nat, k % 10 = r ∧ r ≤ 9 := ⟨_, rfl, by omega⟩
          obtain ⟨rq, hrq⟩ : ∃ rq : List UInt8, List.replicate q 48 = rq := ⟨_, rfl⟩
          obtain ⟨ch, hch⟩ : ∃ ch : UInt8, UInt8.ofNat (97 + r) = ch := ⟨_, rfl⟩
          have hnm : fname k = 102 :: (rq ++ [ch]) := by rw [← hrq, ← hch, ← hq, ← hr]; rfl
          have HRP : Hid (∀ p : Regrown, Calls Tryd.prog 48 #[.string ⟨#[48]⟩, .int .i64 q] (grow (redrawn wr p.d) p.os) fun e w'' => e = .returned (.string ⟨rq.toArray⟩) ∧ ∃ p' : Regrown, w'' = grow (redrawn wr p'.d) p'.os) := fun p => quiet_nw fun w2 hw2 =>
            repeat_ok w2 48 q (by omega) hrq
          have f1 : (k : Int) / 10 = (q : Int) := by rw [← hq]; rfl
          have f2 : (k : Int) % 10 = (r : Int) := by rw [← hr]; rfl
          have f3 : (k : Int).tmod 10 = (r : Int) := by rw [← hr]; rfl
          have hsl : ∀ w, (Instr.slice 9 (.string ⟨#[97, 98, 99, 100, 101, 102, 103, 104, 105, 106]⟩) (some (.int .i64 r)) (some (.int .i64 ((r : Int) + 1))) none).run Tryd.prog w = .ok (.string ⟨#[ch]⟩) w := by
            intro w
            rw [← hch]
            exact digit r hr1 w
          have HNM := Lib.hid hnm
          have hql : rq.length ≤ 19 := by rw [← hrq]; simpa using hq1
          clear hq hr hrq hch hnm
          go_wp2
          refine wp_region_quiet_below (by kernel_rfl) (by kernel_rfl) ?_
          repeat (first | go_big_quiet_step (with_reducible exact HRP.out _) | quiet_step (with_reducible exact HRP.out _))
          refine wpQuiet_nil ?_
          intro w48 hw48
          have N48 := Lib.hid (Nw.of_regrown hw48)
          clear f1 f2 f3 hsl
          go_wp2_with fail
          have es : ((⟨#[102]⟩ : ByteArray) ++ ⟨rq.toArray⟩ ++ ⟨#[ch]⟩) = ⟨(fname k).toArray⟩ := by rw [HNM.out]; exact str3 [102] rq [ch]
          rw [es]
          have hfl : (fname k).length ≤ 9223372036854775807 := by rw [HNM.out]; simp; omega
          clear es
          have hsu := nd_succ hlt
          have HSU := Lib.hid hsu
          have HFL := Lib.hid hfl
          clear hsu hfl HNM hql
          generalize fname k = fk at HSU HFL ⊢
          refine ((HH.out.nw N48.out).append fk [] (.slice none 0 0) (.inl ⟨_, rfl, rfl⟩) HFL.out (by decide) HSU.out).mono ?_
          rintro e w49 ⟨rfl, H49⟩
          have H49 := Lib.hid H49
          clear HSU HFL
          go_wp2
          go_roundw
          case rel => exact ⟨k + 1, by omega, by go_num, H49.out⟩
          case measure => simp [intOf]; omega
        · obtain rfl : k = 200 := by omega
          go_wp2_with fail
          refine (HH.out.append [122] [] (.slice none 0 0) (.inl ⟨_, rfl, rfl⟩) (by decide) (by decide) e1).mono ?_
          rintro e w50 ⟨rfl, H50⟩
          have H50 := Lib.hid H50
          go_wp2_with fail
          refine (H50.out.append' [102, 97] [49] _ _ (rd_lit _ _ _ _ _ 1 rfl (by decide) (by decide)) (.inr rfl) (by decide) (by decide) e2).mono ?_
          rintro e w51 ⟨rfl, H51⟩
          have H51 := Lib.hid H51
          obtain ⟨r40, hr40⟩ : ∃ r : List UInt8, List.replicate 40 97 = r := ⟨_, rfl⟩
          have hl40 : r40.length ≤ 40 := by rw [← hr40]; simp
          have R40 := Lib.hid hr40
          have e3' := e3
          rw [hr40] at e3'
          have E3 := Lib.hid e3'
          clear hr40 e3' HH H50
          go_wp2_with fail
          refine (repeat_ok _ 97 40 (by decide) R40.out).mono ?_
          rintro e w52 ⟨rfl, n52⟩
          have H52 := Lib.hid (H51.out.nw n52)
          clear n52 H51
          go_wp2_with fail
          refine (H52.out.append r40 [] (.slice none 0 0) (.inl ⟨_, rfl, rfl⟩) (by omega) (by decide) E3.out).mono ?_
          rintro e w53 ⟨rfl, H53⟩
          have H53 := Lib.hid H53
          obtain ⟨LL, hLL⟩ : ∃ LL, nf.list = LL := ⟨_, rfl⟩
          have hLn : LL.length = 200 := by rw [← hLL]; exact nf_list
          have HLL := Lib.hid hLL
          have HLn := Lib.hid hLn
          clear hLL hLn H52
          go_wp2_with fail
          refine (H53.out.list HLL.out).mono ?_
          rintro e w54 ⟨v54, rfl, hv54, H54, -⟩
          obtain ⟨a54, c54, rfl, -⟩ := hv54.len
          rw [HLn.out]
          have H54 := Lib.hid H54
          clear hv54 H53
          go_wp2_with fail
          refine (AW.out _).mono ?_
          rintro e w55 ⟨rfl, n55⟩
          have N55 := Lib.hid n55
          clear n55
          go_wp2
          go_ret
          exact ⟨rfl, (N45.out.trans H54.out.base).trans N55.out⟩
end Go.Proofs.YtihagdadbeoeoaaDoor.DiskNumbers