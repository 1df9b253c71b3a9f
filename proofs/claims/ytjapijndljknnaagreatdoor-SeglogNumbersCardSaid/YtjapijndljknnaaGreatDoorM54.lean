/-
  Texts merged by a program of this claim's: NoDisk, SNB, SNUse, SeglogNumbersP, SNPlain, Many.
-/
import Derived.Test.YtjapijndljknnaaGreatDoorM9
import Derived.Test.YtjapijndljknnaaGreatDoorM19
import Derived.Test.YtjapijndljknnaaGreatDoorM29
import Derived.Test.YtjapijndljknnaaGreatDoorM42
import Derived.Test.YtjapijndljknnaaGreatDoorM26
import Derived.Test.YtjapijndljknnaaGreatDoorM38
import Derived.Test.YtjapijndljknnaaGreatDoorM33
import Derived.Test.YtjapijndljknnaaGreatDoorM13
import Derived.Test.YtjapijndljknnaaGreatDoorM17
import Derived.LaidEqlPtr
import Derived.Test.YtjapijndljknnaaGreatDoorLogJS
import Derived.Test.YtjapijndljknnaaGreatDoorM34
import Derived.Test.YtjapijndljknnaaGreatDoorM15
import Derived.Test.YtjapijndljknnaaGreatDoorM44
import Derived.Test.YtjapijndljknnaaGreatDoorM50
/-
  What a disk that New did not make answers: nothing, and ErrNil.
-/
namespace Go.Proofs.YtjapijndljknnaaGreatDoor
open Go Go.RowKit Go.Sort
set_option maxRecDepth 100000
set_option maxHeartbeats 800000

/-- No pointer, or one to a disk without a map. -/
def NoDisk (w : World) (v : Value) : Prop := v = .pointer none ∨ ∃ b, v = .pointer (some ⟨b, 0, none⟩) ∧ w.cell? ⟨b, 0, none⟩ = some (.map none)
theorem NoDisk.nw {w w' : World} {v : Value} (h : NoDisk w v) (hw : Nw w w') : NoDisk w' v := h.imp id fun ⟨b, h1, h2⟩ => ⟨b, h1, hw.cell h2⟩
theorem up_no {w : World} {v : Value} (h : NoDisk w v) : Calls Tryz.prog 56 #[v] w fun e w' => e = .returned (.int .i64 1) ∧ w = w' := by
  rcases h with rfl | ⟨b, rfl, h⟩
  · exact up_nil w
  · exact up_zero w b h
theorem Read_no {w : World} {v n : Value} (h : NoDisk w v) : Calls Tryz.prog 14 #[v, n] w fun e w' => e = .returned (.tuple #[.slice none 0 0, .int .i64 1]) ∧ w = w' := by
  have H := Lib.hid h
  clear h
  go_enter Tryz.func14, Tryz.ntmps14
  go_wp2_with fail
  refine (up_no H.out).mono ?_
  rintro e w' ⟨rfl, rfl⟩
  go_wp2
  go_ret2
  exact ⟨rfl, rfl⟩
end Go.Proofs.YtjapijndljknnaaGreatDoor

/-
  Seglog's examples in plain words: pieces which may be, which may not; a manifest, cut; a log on a disk that has files already. (The facts are reckoned by the kernel.)
-/
namespace Go.Proofs.YtjapijndljknnaaGreatDoor
open Go
set_option maxRecDepth 100000
def goodL : List Pc := [⟨[100, 55], 0, 7, true⟩, ⟨[115, 55], 7, 1099511627776, false⟩, ⟨[115, 45, 120], 1099511627783, 0, false⟩]
theorem good_right : rightL goodL = true := by decide +kernel
theorem good_listed : listedB (manifestB goodL) = (goodL, 0) := listedB_at good_right
theorem good_cut : (listedB ((manifestB goodL).take ((manifestB goodL).length - 1))).2 = 12 := by decide +kernel
theorem two_cut : (listedB [1, 2]).2 = 11 := by decide +kernel
/-- Those ahead and behind the long one. -/
def badsL : List (List Pc) := [[⟨[115, 48], 0, 1, false⟩], [⟨[115, 48], 0, 0, true⟩], [⟨[115, 48], 1, 0, false⟩], [⟨manifestS, 0, 0, false⟩], [⟨nextS, 0, 0, false⟩], [⟨[65], 0, 0, false⟩], [⟨[], 0, 0, false⟩],
  [⟨List.replicate 41 97, 0, 0, false⟩], [⟨[97], 0, 1, false⟩, ⟨[97], 1, 0, false⟩], [⟨[97], 0, 0, false⟩, ⟨[98], 0, 0, false⟩], [⟨[97], 0, 1099511627777, false⟩, ⟨[98], 1099511627777, 0, false⟩], [⟨[97], 0, 2, false⟩, ⟨[98], 1, 0, false⟩]]
theorem bads_right : ∀ l ∈ badsL, rightL l = false := by decide +kernel
theorem long_right {l : List Pc} (h : l.length = 101) : rightL l = false := by
  unfold rightL
  rw [h]; rfl
/-! ### The log -/
def rubB : List UInt8 := [114, 117, 98, 98, 105, 115, 104]
def sn1 : Dsk := ((newDsk 1048576).append [115, 48] rubB).1
def sn2 : Dsk := (sn1.append nextS rubB).1
def sn3 : Dsk := (createD sn2 64).1
def sn4 : Dsk := ((newLg 64).swap sn3 []).d
def snL : Lg := ((newLg 64).swap sn3 []).L
theorem pair_eq {α : Type} {x : α × Int} {y : Int} (h : x.2 = y) : x = (x.1, y) := by rw [← h]
theorem sn_1 : (newDsk 1048576).append [115, 48] rubB = (sn1, 0) := pair_eq (by decide +kernel)
theorem sn_2 : sn1.append nextS rubB = (sn2, 0) := pair_eq (by decide +kernel)
theorem sn_3 : createD sn2 64 = (sn3, 0) := pair_eq (by decide +kernel)
theorem sn_man : (sn3.read manifestS).2 = 0 := by decide +kernel
theorem sn_again : createD sn3 64 = (sn3, 14) := by
  unfold createD
  rw [if_neg (by omega), if_pos sn_man]
theorem sn_list : sn3.list = [manifestS, [115, 48]] := by rw [list_eq]; decide +kernel
theorem sn_size : (fileOf sn3.files [115, 48]).bytes.length = 9 := by decide +kernel
theorem sn_none : (newLg 64).add sn3 [] = ⟨sn3, newLg 64, 2⟩ := rfl
theorem sn_many : (newLg 64).add sn3 (zs 4097) = ⟨sn3, newLg 64, 3⟩ := by
  unfold Lg.add
  rw [zs_len]
  rfl
theorem sn_good : (newLg 64).swap sn3 goodL = ⟨sn3, newLg 64, 14⟩ := by
  unfold Lg.swap
  rw [if_neg (by decide), if_pos (by decide +kernel)]
theorem sn_swap : (newLg 64).swap sn3 [] = ⟨sn4, snL, 0⟩ := by
  have h : ((newLg 64).swap sn3 []).e = 0 := by decide +kernel
  rw [← h]; rfl
theorem sn_l : snL.l = [⟨[115, 48], 0, 0, false⟩] := by decide +kernel
theorem sn_right : rightL [⟨[115, 48], 0, 0, false⟩] = true := by decide +kernel
theorem nine_right : rightL [⟨[115, 57], 0, 0, false⟩] = true := by decide +kernel
theorem sn_nine : (sn4.read [115, 57]).2 = 13 := by decide +kernel
theorem sn_resume : resumeD sn4 64 [⟨[115, 57], 0, 0, false⟩] 0 = (sn4, 13) := by
  unfold resumeD
  have e : (lastP [⟨[115, 57], 0, 0, false⟩]).name = [115, 57] := rfl
  have f : (lastP [⟨[115, 57], 0, 0, false⟩]).first = 0 := rfl
  rw [nine_right, e, f, sn_nine, if_neg (by simp), if_pos (by decide)]
end Go.Proofs.YtjapijndljknnaaGreatDoor

/-
  What SeglogNumbers wants besides: Dec, Create on nil, Resume refused, pieces written one by one.
-/
namespace Go.Proofs.YtjapijndljknnaaGreatDoor
open Go Go.RowKit Go.Sort
set_option maxRecDepth 100000
set_option maxHeartbeats 1600000
theorem dig0 (W : World) : (Instr.slice 9 (.string ⟨#[48, 49, 50, 51, 52, 53, 54, 55, 56, 57]⟩) (some (.int .i64 0)) (some (.int .i64 1)) none).run Tryz.prog W = .ok (.string ⟨#[48]⟩) W := by kernel_rfl
theorem dig1 (W : World) : (Instr.slice 9 (.string ⟨#[48, 49, 50, 51, 52, 53, 54, 55, 56, 57]⟩) (some (.int .i64 1)) (some (.int .i64 2)) none).run Tryz.prog W = .ok (.string ⟨#[49]⟩) W := by kernel_rfl
theorem dig2 (W : World) : (Instr.slice 9 (.string ⟨#[48, 49, 50, 51, 52, 53, 54, 55, 56, 57]⟩) (some (.int .i64 2)) (some (.int .i64 3)) none).run Tryz.prog W = .ok (.string ⟨#[50]⟩) W := by kernel_rfl
theorem dig3 (W : World) : (Instr.slice 9 (.string ⟨#[48, 49, 50, 51, 52, 53, 54, 55, 56, 57]⟩) (some (.int .i64 3)) (some (.int .i64 4)) none).run Tryz.prog W = .ok (.string ⟨#[51]⟩) W := by kernel_rfl
theorem dig4 (W : World) : (Instr.slice 9 (.string ⟨#[48, 49, 50, 51, 52, 53, 54, 55, 56, 57]⟩) (some (.int .i64 4)) (some (.int .i64 5)) none).run Tryz.prog W = .ok (.string ⟨#[52]⟩) W := by kernel_rfl
theorem dig5 (W : World) : (Instr.slice 9 (.string ⟨#[48, 49, 50, 51, 52, 53, 54, 55, 56, 57]⟩) (some (.int .i64 5)) (some (.int .i64 6)) none).run Tryz.prog W = .ok (.string ⟨#[53]⟩) W := by kernel_rfl
theorem dig6 (W : World) : (Instr.slice 9 (.string ⟨#[48, 49, 50, 51, 52, 53, 54, 55, 56, 57]⟩) (some (.int .i64 6)) (some (.int .i64 7)) none).run Tryz.prog W = .ok (.string ⟨#[54]⟩) W := by kernel_rfl
theorem dig7 (W : World) : (Instr.slice 9 (.string ⟨#[48, 49, 50, 51, 52, 53, 54, 55, 56, 57]⟩) (some (.int .i64 7)) (some (.int .i64 8)) none).run Tryz.prog W = .ok (.string ⟨#[55]⟩) W := by kernel_rfl
theorem dig8 (W : World) : (Instr.slice 9 (.string ⟨#[48, 49, 50, 51, 52, 53, 54, 55, 56, 57]⟩) (some (.int .i64 8)) (some (.int .i64 9)) none).run Tryz.prog W = .ok (.string ⟨#[56]⟩) W := by kernel_rfl
theorem dig9 (W : World) : (Instr.slice 9 (.string ⟨#[48, 49, 50, 51, 52, 53, 54, 55, 56, 57]⟩) (some (.int .i64 9)) (some (.int .i64 10)) none).run Tryz.prog W = .ok (.string ⟨#[57]⟩) W := by kernel_rfl
theorem digit_h (k : Nat) (hk : k < 10) (W : World) : (Instr.slice 9 (.string ⟨#[48, 49, 50, 51, 52, 53, 54, 55, 56, 57]⟩) (some (.int .i64 k)) (some (.int .i64 ((k : Int) + 1))) none).run Tryz.prog W = .ok (.string ⟨#[48 + UInt8.ofNat k]⟩) W := by
  match k, hk with
  | 0, _ => exact dig0 W
  | 1, _ => exact dig1 W
  | 2, _ => exact dig2 W
  | 3, _ => exact dig3 W
  | 4, _ => exact dig4 W
  | 5, _ => exact dig5 W
  | 6, _ => exact dig6 W
  | 7, _ => exact dig7 W
  | 8, _ => exact dig8 W
  | 9, _ => exact dig9 W
theorem Dec_some (w : World) (i : Nat) (hi : i ≤ 100) : Calls Tryz.prog 21 #[.int .i64 i] w fun e w' => ∃ l : List UInt8, l.length ≤ 11 ∧ e = .returned (.string ⟨l.toArray⟩) ∧ w = w' := by
  have hm : Int.tmod (i : Int) 10 = ((i % 10 : Nat) : Int) := by rw [Int.tmod_eq_emod_of_nonneg (by omega)]; omega
  have hd : Int.tdiv (i : Int) 10 = ((i / 10 : Nat) : Int) := by rw [Int.tdiv_eq_ediv_of_nonneg (by omega)]; omega
  obtain ⟨r, hr⟩ : ∃ r, i % 10 = r := ⟨_, rfl⟩
  obtain ⟨q, hq⟩ : ∃ q, i / 10 = q := ⟨_, rfl⟩
  have hrl : r < 10 := by omega
  have hql : q ≤ 10 := by omega
  rw [hr] at hm
  rw [hq] at hd
  have hs := digit_h r hrl
  have hw1 : IntKind.i64.wrap ((r : Int) + 1) = (r : Int) + 1 := IntWalk.i64_in _ (by omega)
  have hw2 : IntKind.i64.wrap (q : Int) = (q : Int) := IntWalk.i64_in _ (by omega)
  clear hr hq
  go_enter Tryz.func21, Tryz.ntmps21
  go_wp2
  go_loopw [0, 3] (fun n s wr => ∃ (j : Nat) (l : List UInt8), n = .int .i64 j ∧ s = .string ⟨l.toArray⟩ ∧ j ≤ 10 ∧ l.length + j ≤ 11 ∧ 1 ≤ l.length ∧ w = wr) (fun n _ _ => (intOf n).toNat)
  case atStart => exact ⟨q, [48 + UInt8.ofNat r], rfl, rfl, hql, by simp only [List.length_singleton]; omega, by simp, rfl⟩
  case round =>
    obtain ⟨j, l, rfl, rfl, hj, hl, hl1, rfl⟩ := hrel
    clear hs hm hd hw1 hw2
    by_cases h0 : 0 < j
    case neg =>
      go_wp2
      go_ret
      exact ⟨l, by omega, rfl, rfl⟩
    have hm : Int.tmod (j : Int) 10 = ((j % 10 : Nat) : Int) := by rw [Int.tmod_eq_emod_of_nonneg (by omega)]; omega
    have hd : Int.tdiv (j : Int) 10 = ((j / 10 : Nat) : Int) := by rw [Int.tdiv_eq_ediv_of_nonneg (by omega)]; omega
    obtain ⟨r2, hr⟩ : ∃ r, j % 10 = r := ⟨_, rfl⟩
    obtain ⟨q2, hq⟩ : ∃ q, j / 10 = q := ⟨_, rfl⟩
    rw [hr] at hm
    rw [hq] at hd
    have hs := digit_h r2 (by omega)
    have hw1 : IntKind.i64.wrap ((r2 : Int) + 1) = (r2 : Int) + 1 := IntWalk.i64_in _ (by omega)
    have hw2 : IntKind.i64.wrap (q2 : Int) = (q2 : Int) := IntWalk.i64_in _ (by omega)
    have hqj : q2 < j := by omega
    have hcat : (⟨#[48 + UInt8.ofNat r2]⟩ ++ ⟨l.toArray⟩ : ByteArray) = ⟨((48 + UInt8.ofNat r2) :: l).toArray⟩ := ByteArray.mk_append_mk [48 + UInt8.ofNat r2] l
    have hll : l.length ≤ 10 := by omega
    clear hr hq
    go_wp2
    go_roundw
    case rel => exact ⟨q2, (48 + UInt8.ofNat r2) :: l, by go_num, by rw [← hcat], by omega, by simp only [List.length_cons]; omega, by simp, by first | rfl | trivial⟩
    case measure => simp [intOf]; omega
theorem Create_nil (w : World) : Calls Tryz.prog 26 #[.pointer none, .int .i64 64] w fun e w' => e = .returned (.tuple #[.pointer none, .int .i64 1]) ∧ Nw w w' := by
  have HZ := Lib.hid (sized_ok 64 (ok := true) (by simp) w)
  have RN := Lib.hid (fun W => Read_no (w := W) (v := .pointer none) (n := .string ⟨#[109, 97, 110, 105, 102, 101, 115, 116]⟩) (.inl rfl))
  go_enter Tryz.func26, Tryz.ntmps26
  go_wp2_with fail
  refine HZ.out.mono ?_
  rintro e w1 ⟨rfl, rfl⟩
  go_wp2_with fail
  refine (RN.out w).mono ?_
  rintro e w1 ⟨rfl, rfl⟩
  go_wp2
  refine bodyPost_ret (v := .tuple #[.pointer none, .int .i64 1]) (by simp [results, Tryz.results26, go_sem]) rfl ⟨rfl, Nw.refl _⟩
/-- A size that may not be. -/
theorem Resume_sz (w : World) (b : Nat) {a : Option Addr} {m c : Nat} (size n : Int) (h : ¬ (64 ≤ size ∧ size ≤ 16777216)) : Calls Tryz.prog 34 #[.pointer (some ⟨b, 0, none⟩), .int .i64 size, .slice a m c, .int .i64 n] w fun e w' => e = .returned (.tuple #[.pointer none, .int .i64 2]) ∧ Nw w w' := by
  have HZ := Lib.hid (sized_ok size (ok := false) (by simp [h]) w)
  clear h
  go_enter Tryz.func34, Tryz.ntmps34
  go_wp2_with fail
  refine HZ.out.mono ?_
  rintro e w1 ⟨rfl, rfl⟩
  go_wp2
  refine bodyPost_ret (v := .tuple #[.pointer none, .int .i64 2]) (by simp [results, Tryz.results34, go_sem]) rfl ⟨rfl, Nw.refl _⟩
/-- Pieces that may not be. -/
theorem Resume_pc (w : World) (b : Nat) {v : Value} {l : List Pc} (hv : Pcs w v l) (hr : rightL l = false) (n : Int) : Calls Tryz.prog 34 #[.pointer (some ⟨b, 0, none⟩), .int .i64 64, v, .int .i64 n] w fun e w' => e = .returned (.tuple #[.pointer none, .int .i64 2]) ∧ Nw w w' := by
  have HZ := Lib.hid (sized_ok 64 (ok := true) (by simp) w)
  have HR := Right_ok hv
  rw [hr] at HR
  have HR := Lib.hid HR
  obtain ⟨a, c, rfl, -⟩ := hv.elem
  clear hv hr
  go_enter Tryz.func34, Tryz.ntmps34
  go_wp2_with fail
  refine HZ.out.mono ?_
  rintro e w1 ⟨rfl, rfl⟩
  go_wp2_with fail
  refine HR.out.mono ?_
  rintro e w1 ⟨rfl, n1⟩
  have N1 := Lib.hid n1
  clear n1
  go_wp2
  refine bodyPost_ret (v := .tuple #[.pointer none, .int .i64 2]) (by simp [results, Tryz.results34, go_sem]) rfl ⟨rfl, N1.out⟩
/-- One piece, and fewer events than there must be. -/
theorem Resume_neg (w : World) (b : Nat) {v : Value} {p : Pc} (hv : Pcs w v [p]) (hr : rightL [p] = true) (n : Int) (hn : n < p.first) : Calls Tryz.prog 34 #[.pointer (some ⟨b, 0, none⟩), .int .i64 64, v, .int .i64 n] w fun e w' => e = .returned (.tuple #[.pointer none, .int .i64 2]) ∧ Nw w w' := by
  have HZ := Lib.hid (sized_ok 64 (ok := true) (by simp) w)
  have HR := Right_ok hv
  rw [hr] at HR
  have HR := Lib.hid HR
  obtain ⟨a, c, rfl, -, -, hel⟩ := hv.elem
  obtain ⟨g, o, rfl, hg, -, c1, -, -⟩ := hel 0 (by simp)
  have c1 : w.cell? ⟨g, o + 1, none⟩ = some (.int .i64 p.first) := by simpa using c1
  obtain ⟨f, hf⟩ : ∃ f, p.first = f := ⟨_, rfl⟩
  rw [hf] at c1 hn
  have HC := Lib.hid c1
  have HG := Lib.hid hg
  have hd : decide (n < f) = true := decide_eq_true hn
  clear hv hr hel c1 hg hf
  go_enter Tryz.func34, Tryz.ntmps34
  go_wp2_with fail
  refine HZ.out.mono ?_
  rintro e w1 ⟨rfl, rfl⟩
  go_wp2_with fail
  refine HR.out.mono ?_
  rintro e w1 ⟨rfl, n1⟩
  have N1 := Lib.hid n1
  have c1 := n1.cell HC.out
  have hg := Nat.lt_of_lt_of_le HG.out n1.size
  clear n1
  go_wp2
  refine bodyPost_ret (v := .tuple #[.pointer none, .int .i64 2]) (by simp [results, Tryz.results34, go_sem]) rfl ⟨rfl, N1.out⟩
/-- A piece is written over another one. -/
theorem flat_set : ∀ (ps : List Pc) (i : Nat) (_ : i < ps.length) (q : Pc), ((((ps.flatMap pcV).set (i * 4) (.string ⟨q.name.toArray⟩)).set (i * 4 + 1) (.int .i64 q.first)).set (i * 4 + 2) (.int .i64 q.count)).set (i * 4 + 3) (.bool q.dense) = (ps.set i q).flatMap pcV
  | [], i, hi, _ => by simp at hi
  | p :: ps, 0, _, q => by simp [pcV]
  | p :: ps, i + 1, hi, q => by
    have ih := flat_set ps i (by simpa using hi) q
    rw [List.set_cons_succ, List.flatMap_cons, List.flatMap_cons, ← ih]
    have e : (i + 1) * 4 = i * 4 + 1 + 1 + 1 + 1 := by omega
    simp only [pcV, List.cons_append, List.nil_append, e, Nat.add_right_comm (i * 4 + 1 + 1 + 1 + 1), List.set_cons_succ]
theorem flat_count : ∀ (ps : List Pc) (i : Nat) (hi : i < ps.length) (c : Int), (ps.flatMap pcV).set (i * 4 + 2) (.int .i64 c) = (ps.set i { ps[i] with count := c }).flatMap pcV
  | [], i, hi, _ => by simp at hi
  | p :: ps, 0, _, c => by simp [pcV]
  | p :: ps, i + 1, hi, c => by
    have ih := flat_count ps i (by simpa using hi) c
    rw [List.set_cons_succ, List.flatMap_cons, List.flatMap_cons, List.getElem_cons_succ, ← ih]
    have e : (i + 1) * 4 + 2 = i * 4 + 2 + 1 + 1 + 1 + 1 := by omega
    simp only [pcV, List.cons_append, List.nil_append, e, List.set_cons_succ]
theorem pc_lit (w : World) (q : Pc) (hq : q.Ok) : Pcs (w.alloc (.cells (pcV q).toArray 32 (0, 0))) (.slice (some ⟨w.heap.size, 0, none⟩) 1 1) [q] :=
  ⟨by have := src_lit w 32 (0, 0) 4 1 1 (pcV q) rfl (by omega) (by decide); simpa using this, fun x hx => by rw [List.mem_singleton.1 hx]; exact hq⟩
theorem pc_lit2 (w : World) (q r : Pc) (hq : q.Ok) (hr : r.Ok) : Pcs (w.alloc (.cells (pcV q ++ pcV r).toArray 32 (0, 0))) (.slice (some ⟨w.heap.size, 0, none⟩) 2 2) [q, r] :=
  ⟨by have := src_lit w 32 (0, 0) 4 2 2 (pcV q ++ pcV r) rfl (by omega) (by decide); simpa using this, fun x hx => by
    simp only [List.mem_cons, List.mem_nil_iff, or_false] at hx
    rcases hx with rfl | rfl
    · exact hq
    · exact hr⟩
theorem zerosP_list (n : Nat) : (List.range (n * 4)).map (fun i => (pcV ⟨[], 0, 0, false⟩).toArray[i % 4]!) = (List.replicate n (⟨[], 0, 0, false⟩ : Pc)).flatMap pcV := by
  induction n with
  | zero => rfl
  | succ n ih =>
    have e : (n + 1) * 4 = n * 4 + 1 + 1 + 1 + 1 := by omega
    have h0 : (n * 4) % 4 = 0 := by omega
    have h1 : (n * 4 + 1) % 4 = 1 := by omega
    have h2 : (n * 4 + 1 + 1) % 4 = 2 := by omega
    have h3 : (n * 4 + 1 + 1 + 1) % 4 = 3 := by omega
    rw [e, List.range_succ, List.range_succ, List.range_succ, List.range_succ, List.replicate_succ', List.flatMap_append, ← ih]
    simp only [List.map_append, List.map_cons, List.map_nil, h0, h1, h2, h3, List.append_assoc]
    rfl
theorem flatPc_len : ∀ l : List Pc, (l.flatMap pcV).length = l.length * 4
  | [] => rfl
  | p :: l => by rw [List.flatMap_cons, List.length_append, flatPc_len l, List.length_cons]; simp [pcV]; omega
theorem makeP (w : World) (n : Nat) (hn : n ≤ 1048576) : ∃ W, (Instr.makeSlice 28 (.int .i64 n) (.int .i64 n)).run Tryz.prog w = .ok (.slice (some ⟨w.heap.size, 0, none⟩) n n) W ∧ Nw w W ∧ Vec 4 W (.slice (some ⟨w.heap.size, 0, none⟩) n n) n ((List.replicate n (⟨[], 0, 0, false⟩ : Pc)).flatMap pcV) := by
  obtain ⟨i0, hi, hz0, hz1, hz2⟩ := info_parts infoPc
  have hr := run_makeSlice (P := Tryz.prog) w 28 32 i0 _ Tryz.underlying28 hi hz0 .i64 .i64 n n (by omega) (by omega) (by rw [hz1]; omega) (by rw [hz2]; omega) (by omega)
  rw [hz1] at hr
  have en : ((n : Nat) : Int).toNat = n := by simp
  rw [en] at hr
  refine ⟨_, hr, (Nw.refl w).alloc _, ?_⟩
  have e : madeCells (Value.agg #[.string ⟨#[]⟩, .int .i64 0, .int .i64 0, .bool false]).cells (n * 4) = ((List.replicate n (⟨[], 0, 0, false⟩ : Pc)).flatMap pcV).toArray := by
    apply Array.ext'
    rw [List.toList_toArray, ← zerosP_list]
    unfold madeCells
    rw [Array.toList_map, Array.toList_range]
    rfl
  rw [e]
  exact vec_lit w 32 4 n _ _ (0, 0) rfl (by rw [flatPc_len, List.length_replicate]) (by unfold maxLen; omega) (fun j _ h => by simp at h)
theorem repeatL_one' (c : UInt8) : ∀ n, Lib.repeatL [c] n = List.replicate n c
  | 0 => rfl
  | n + 1 => by simp [Lib.repeatL, repeatL_one' c n, List.replicate_succ]
theorem repeat_a (w : World) : Calls Tryz.prog 22 #[.string ⟨#[97]⟩, .int .i64 41] w fun e w' => e = .returned (.string ⟨(List.replicate 41 (97 : UInt8)).toArray⟩) ∧ Nw w w' := by
  refine (Tryz.strings_Repeat ⟨#[97]⟩ 41 w (by omega) (by show 1 * 41 ≤ _; omega)).mono ?_
  rintro e w' ⟨he, hb⟩
  refine ⟨?_, Nw.of_below hb⟩
  rw [he]
  show Ending.returned (.string ⟨(Lib.repeatL [97] 41).toArray⟩) = _
  rw [repeatL_one']
/-- The rows of pieces that may not be. -/
def BadRows (w : World) (g : Nat) : Prop := g < w.heap.size ∧ ∀ i, i < 14 → ∃ (a : Option Addr) (m c : Nat) (l : List Pc), w.cell? ⟨g, i, none⟩ = some (.slice a m c) ∧ Pcs w (.slice a m c) l ∧ rightL l = false
theorem BadRows.nw {w w' : World} {g : Nat} (h : BadRows w g) (n : Nw w w') : BadRows w' g := ⟨Nat.lt_of_lt_of_le h.1 n.size, fun i hi => by
  obtain ⟨a, m, c, l, h1, h2, h3⟩ := h.2 i hi
  exact ⟨a, m, c, l, n.cell h1, h2.nw n, h3⟩⟩
theorem LAppend_bad {X : Nat → Prop} {w0 w : World} {p b : Nat} {d : Dsk} {L : Lg} (h : HasL X w0 w p b d L) (hov : L.over = false) {v : Value} {es : List Ev} (hv : Evs w v es) (x : Int) (hx : (es.length = 0 ∧ x = 2) ∨ (4096 < es.length ∧ x = 3)) :
    Calls Tryz.prog 31 #[.pointer (some ⟨p, 0, none⟩), v] w fun e w' => e = .returned (.int .i64 x) ∧ w = w' := by
  obtain ⟨a, cp, rfl, -, -⟩ := hv.elem
  obtain ⟨g, o, cap, h⟩ := h
  have HU := Lib.hid (lup_ok h.mem)
  rw [hov] at HU
  have HF := Lib.hid (Frame_no hv x hx)
  have hxb : (x != 0) = true := by rcases hx with ⟨-, rfl⟩ | ⟨-, rfl⟩ <;> rfl
  clear h hov hv hx
  go_enter Tryz.func31, Tryz.ntmps31
  go_wp2_with fail
  refine HU.out.mono ?_
  rintro e w1 ⟨rfl, rfl⟩
  go_wp2_with fail
  refine HF.out.mono ?_
  rintro e w1 ⟨rfl, rfl⟩
  go_wp2
  go_ret
  exact ⟨rfl, rfl⟩
theorem makeA (n : Nat) (hn : n ≤ 1048576) : ∃ arr : Array Value, ∀ W : World, (Instr.makeSlice 25 (.int .i64 n) (.int .i64 n)).run Tryz.prog W = .ok (.slice (some ⟨W.heap.size, 0, none⟩) n n) (W.alloc (.cells arr 73 (0, 0))) ∧
    Evs (W.alloc (.cells arr 73 (0, 0))) (.slice (some ⟨W.heap.size, 0, none⟩) n n) (zs n) := by
  refine ⟨((List.replicate n Ev.zero).flatMap evV).toArray, fun w => ?_⟩
  obtain ⟨i0, hi, hz0, hz1, hz2⟩ := info_parts infoEv
  have hr := run_makeSlice (P := Tryz.prog) w 25 73 i0 _ Tryz.underlying25 hi hz0 .i64 .i64 n n (by omega) (by omega) (by rw [hz1]; omega) (by rw [hz2]; omega) (by omega)
  rw [hz1] at hr
  have en : ((n : Nat) : Int).toNat = n := by simp
  rw [en] at hr
  have e : madeCells (Value.agg #[.int .i64 0, .int .u8 0, .int .i64 0, .int .i64 0, .int .i64 0]).cells (n * 5) = ((List.replicate n Ev.zero).flatMap evV).toArray := by
    apply Array.ext'
    rw [List.toList_toArray, ← zeros_list]
    unfold madeCells
    rw [Array.toList_map, Array.toList_range]
    rfl
  rw [e] at hr
  refine ⟨hr, ?_, zs_ok n⟩
  rw [zs_len]
  exact (vec_lit w 73 5 n _ _ (0, 0) rfl (by rw [evs_len, List.length_replicate]) (by unfold maxLen; omega) (fun j _ h => by simp at h)).src
theorem eql_disk (b : Nat) (w : World) : (binOp .eql 23 (.pointer (some ⟨b, 0, none⟩)) (.pointer (some ⟨b, 0, none⟩))).run Tryz.prog w = .ok (.bool true) w := by
  obtain ⟨i, hi⟩ : ∃ i, Tryz.prog.info? (Tryz.prog.pointee 23) = some i := Option.isSome_iff_exists.1 (by kernel_rfl)
  exact run_eql_ptr_same (P := Tryz.prog) (te := Tryz.prog.pointee 23) w ⟨b, 0, none⟩ (by kernel_rfl) hi
end Go.Proofs.YtjapijndljknnaaGreatDoor

/-
  amanuensislaw05.SeglogNumbers: the region of the rows. Printed by wip/gen_sn.py.
-/
namespace Go.Proofs.YtjapijndljknnaaGreatDoor.SeglogNumbers
open Go Go.RowKit Go.Sort
set_option maxRecDepth 100000
set_option maxHeartbeats 3200000

theorem pcs_nil {w : World} : Pcs w (.slice none 0 0) [] := ⟨(Vec.nil (k := 4) (w := w)).src, fun q hq => by cases hq⟩
theorem pc_ok {p : Pc} (h1 : p.name.length ≤ 9223372036854775807) (h2 : (-9223372036854775808 ≤ p.first ∧ p.first ≤ 9223372036854775807) ∧ -9223372036854775808 ≤ p.count ∧ p.count ≤ 9223372036854775807) : p.Ok := ⟨h1, h2.1, h2.2⟩

theorem p7 {wc : World} {lg : Nat} {ll : List Pc} (HL : Hid (Pcs wc (.slice (some ⟨lg, 0, none⟩) 101 101) ll)) (hll : ll.length = 101) {u0 u2 u3 u4 u5 u6 u7 u8 u9 u10 u11 u12 u13 u14 u15 u16 u17 u18 u19 u20 u21 u22 u23 u24 u25 u26 u27 u28 u29 u30 u31 u32 u33 u34 u35 u36 u37 u38 u39 u40 u41 u42 u43 u44 u45 u46 u47 u48 u49 u50 u51 u52 u53 u54 u55 u56 u57 u58 u59 u60 u61 u62 u63 u64 u65 u66 u67 u68 u69 u70 u71 u72 u73 u74 u75 u76 u77 u78 u79 u80 u81 u82 u83 u84 u85 u86 u87 u88 u89 u90 u91 u92 u93 u94 u95 u96 u97 u98 u99 u100 u101 u102 u103 u104 u105 u106 u107 u108 u109 u110 u111 u112 u113 u114 u115 u116 u117 u118 u119 u120 u121 u122 u123 u124 u125 u126 u127 u128 u129 u130 u131 u132 u133 u134 u135 u136 u137 u138 u139 u140 u141 u142 u143 u144 u145 u146 u147 u148 u149 u150 u151 u152 u153 u154 u155 u156 u157 u158 u159 u160 u161 u162 u163 u164 u165 u166 u167 u168 u169 u170 u171 u172 u173 u174 u175 u176 u177 u178 u179 u180 u181 u182 u183 u184 u185 u186 u187 u188 u189 u190 u191 u192 u193 u194 u195 u196 u197 u198 u199 u200 u201 u202 u203 u204 u205 u206 u207 u208 u209 u210 u211 u212 u213 u214 u215 u216 u217 u218 u219 u220 u221 u222 u223 u224 u225 u226 u227 u228 u229 u230 u231 u232 u233 u234 u235 u236 u237 u238 u239 u240 u241 u242 u243 u244 u245 u246 u247 u248 u249 u250 u251 u252 u253 u254 u255 u256 u257 u258 u259 u260 u261 u262 u263 u264 u265 u266 u267 u268 u269 u270 u271 u272 u273 u274 u275 u276 u277 u278 u279 u280 u281 u282 u283 u284 u285 u286 u287 u288 u289 u290 u291 u292 u293 u294 u295 u296 u297 u298 u299 u300 u301 u302 u303 u304 u305 u306 u307 u308 u309 u310 u311 u312 u313 u314 u315 u316 u317 u318 u319 u320 u321 u322 u323 u324 u325 u326 u327 u328 : Value} {Q : Exit → Act → World → Prop} (hP : PanicOk Q)
    (hQ : ∀ (s58 s59 s60 s61 s62 s63 s64 s65 s66 s67 s68 s69 s70 s71 s72 s73 s74 s75 s76 s77 s78 s79 s80 s81 s82 s83 s84 s85 s86 s87 : Value) (g : Nat) (wx : World), BadRows wx g → Nw wc wx → Q .normal ⟨#[u0, .slice (some ⟨lg, 0, none⟩) 101 101, u2, u3, u4, u5, u6, u7, u8, u9, u10, u11, u12, u13, u14, u15, u16, u17, u18, u19, u20, u21, u22, u23, u24, u25, u26, u27, u28, u29, u30, u31, u32, u33, u34, u35, u36, u37, u38, u39, u40, u41, u42, u43, u44, u45, u46, u47, u48, u49, u50, u51, u52, u53, u54, u55, u56, u57, s58, s59, s60, s61, s62, s63, s64, s65, s66, s67, s68, s69, s70, s71, s72, s73, s74, s75, s76, s77, s78, s79, s80, s81, s82, s83, s84, s85, s86, s87, .slice (some ⟨g, 0, none⟩) 14 14, .int .i64 14, .int .i64 0, u91, u92, u93, u94, u95, u96, u97, u98, u99, u100, u101, u102, u103, u104, u105, u106, u107, u108, u109, u110, u111, u112, u113, u114, u115, u116, u117, u118, u119, u120, u121, u122, u123, u124, u125, u126, u127, u128, u129, u130, u131, u132, u133, u134, u135, u136, u137, u138, u139, u140, u141, u142, u143, u144, u145, u146, u147, u148, u149, u150, u151, u152, u153, u154, u155, u156, u157, u158, u159, u160, u161, u162, u163, u164, u165, u166, u167, u168, u169, u170, u171, u172, u173, u174, u175, u176, u177, u178, u179, u180, u181, u182, u183, u184, u185, u186, u187, u188, u189, u190, u191, u192, u193, u194, u195, u196, u197, u198, u199, u200, u201, u202, u203, u204, u205, u206, u207, u208, u209, u210, u211, u212, u213, u214, u215, u216, u217, u218, u219, u220, u221, u222, u223, u224, u225, u226, u227, u228, u229, u230, u231, u232, u233, u234, u235, u236, u237, u238, u239, u240, u241, u242, u243, u244, u245, u246, u247, u248, u249, u250, u251, u252, u253, u254, u255, u256, u257, u258, u259, u260, u261, u262, u263, u264, u265, u266, u267, u268, u269, u270, u271, u272, u273, u274, u275, u276, u277, u278, u279, u280, u281, u282, u283, u284, u285, u286, u287, u288, u289, u290, u291, u292, u293, u294, u295, u296, u297, u298, u299, u300, u301, u302, u303, u304, u305, u306, u307, u308, u309, u310, u311, u312, u313, u314, u315, u316, u317, u318, u319, u320, u321, u322, u323, u324, u325, u326, u327, u328], []⟩ wx) :
    Code.wp Tryz.prog ((Tryz.f4.body.bind (regionOf 7)).getD .skip) Q ⟨#[u0, .slice (some ⟨lg, 0, none⟩) 101 101, u2, u3, u4, u5, u6, u7, u8, u9, u10, u11, u12, u13, u14, u15, u16, u17, u18, u19, u20, u21, u22, u23, u24, u25, u26, u27, u28, u29, u30, u31, u32, u33, u34, u35, u36, u37, u38, u39, u40, u41, u42, u43, u44, u45, u46, u47, u48, u49, u50, u51, u52, u53, u54, u55, u56, u57, u58, u59, u60, u61, u62, u63, u64, u65, u66, u67, u68, u69, u70, u71, u72, u73, u74, u75, u76, u77, u78, u79, u80, u81, u82, u83, u84, u85, u86, u87, u88, u89, u90, u91, u92, u93, u94, u95, u96, u97, u98, u99, u100, u101, u102, u103, u104, u105, u106, u107, u108, u109, u110, u111, u112, u113, u114, u115, u116, u117, u118, u119, u120, u121, u122, u123, u124, u125, u126, u127, u128, u129, u130, u131, u132, u133, u134, u135, u136, u137, u138, u139, u140, u141, u142, u143, u144, u145, u146, u147, u148, u149, u150, u151, u152, u153, u154, u155, u156, u157, u158, u159, u160, u161, u162, u163, u164, u165, u166, u167, u168, u169, u170, u171, u172, u173, u174, u175, u176, u177, u178, u179, u180, u181, u182, u183, u184, u185, u186, u187, u188, u189, u190, u191, u192, u193, u194, u195, u196, u197, u198, u199, u200, u201, u202, u203, u204, u205, u206, u207, u208, u209, u210, u211, u212, u213, u214, u215, u216, u217, u218, u219, u220, u221, u222, u223, u224, u225, u226, u227, u228, u229, u230, u231, u232, u233, u234, u235, u236, u237, u238, u239, u240, u241, u242, u243, u244, u245, u246, u247, u248, u249, u250, u251, u252, u253, u254, u255, u256, u257, u258, u259, u260, u261, u262, u263, u264, u265, u266, u267, u268, u269, u270, u271, u272, u273, u274, u275, u276, u277, u278, u279, u280, u281, u282, u283, u284, u285, u286, u287, u288, u289, u290, u291, u292, u293, u294, u295, u296, u297, u298, u299, u300, u301, u302, u303, u304, u305, u306, u307, u308, u309, u310, u311, u312, u313, u314, u315, u316, u317, u318, u319, u320, u321, u322, u323, u324, u325, u326, u327, u328], []⟩ wc := by
  have _hP := hP
  dsimp only at hQ ⊢
  conv => arg 2; whnf
  have HQ := Lib.hid hQ
  clear hQ
  have P0 : Pcs ((wc).alloc (.cells (pcV ⟨[115, 48], 0, 1, false⟩).toArray 32 (0, 0))) (.slice (some ⟨wc.heap.size, 0, none⟩) 1 1) [⟨[115, 48], 0, 1, false⟩] := by
    have h := pc_lit (wc) ⟨[115, 48], 0, 1, false⟩ (pc_ok (by decide) (by decide))
    have e : (wc).heap.size = wc.heap.size := by simp
    rw [e] at h
    exact h
  have nn : Nw (wc) ((wc).alloc (.cells (pcV ⟨[115, 48], 0, 1, false⟩).toArray 32 (0, 0))) := (Nw.refl _).alloc _
  have NN := nn
  have HLP := HL.out.nw nn
  clear nn
  have P1 : Pcs (((wc).alloc (.cells (pcV ⟨[115, 48], 0, 1, false⟩).toArray 32 (0, 0))).alloc (.cells (pcV ⟨[115, 48], 0, 0, true⟩).toArray 32 (0, 0))) (.slice (some ⟨wc.heap.size + 1, 0, none⟩) 1 1) [⟨[115, 48], 0, 0, true⟩] := by
    have h := pc_lit ((wc).alloc (.cells (pcV ⟨[115, 48], 0, 1, false⟩).toArray 32 (0, 0))) ⟨[115, 48], 0, 0, true⟩ (pc_ok (by decide) (by decide))
    have e : ((wc).alloc (.cells (pcV ⟨[115, 48], 0, 1, false⟩).toArray 32 (0, 0))).heap.size = wc.heap.size + 1 := by simp
    rw [e] at h
    exact h
  have nn : Nw ((wc).alloc (.cells (pcV ⟨[115, 48], 0, 1, false⟩).toArray 32 (0, 0))) (((wc).alloc (.cells (pcV ⟨[115, 48], 0, 1, false⟩).toArray 32 (0, 0))).alloc (.cells (pcV ⟨[115, 48], 0, 0, true⟩).toArray 32 (0, 0))) := (Nw.refl _).alloc _
  have P0 := P0.nw nn
  have NN := NN.trans nn
  have HLP := HLP.nw nn
  clear nn
  have P2 : Pcs ((((wc).alloc (.cells (pcV ⟨[115, 48], 0, 1, false⟩).toArray 32 (0, 0))).alloc (.cells (pcV ⟨[115, 48], 0, 0, true⟩).toArray 32 (0, 0))).alloc (.cells (pcV ⟨[115, 48], 1, 0, false⟩).toArray 32 (0, 0))) (.slice (some ⟨wc.heap.size + 1 + 1, 0, none⟩) 1 1) [⟨[115, 48], 1, 0, false⟩] := by
    have h := pc_lit (((wc).alloc (.cells (pcV ⟨[115, 48], 0, 1, false⟩).toArray 32 (0, 0))).alloc (.cells (pcV ⟨[115, 48], 0, 0, true⟩).toArray 32 (0, 0))) ⟨[115, 48], 1, 0, false⟩ (pc_ok (by decide) (by decide))
    have e : (((wc).alloc (.cells (pcV ⟨[115, 48], 0, 1, false⟩).toArray 32 (0, 0))).alloc (.cells (pcV ⟨[115, 48], 0, 0, true⟩).toArray 32 (0, 0))).heap.size = wc.heap.size + 1 + 1 := by simp
    rw [e] at h
    exact h
  have nn : Nw (((wc).alloc (.cells (pcV ⟨[115, 48], 0, 1, false⟩).toArray 32 (0, 0))).alloc (.cells (pcV ⟨[115, 48], 0, 0, true⟩).toArray 32 (0, 0))) ((((wc).alloc (.cells (pcV ⟨[115, 48], 0, 1, false⟩).toArray 32 (0, 0))).alloc (.cells (pcV ⟨[115, 48], 0, 0, true⟩).toArray 32 (0, 0))).alloc (.cells (pcV ⟨[115, 48], 1, 0, false⟩).toArray 32 (0, 0))) := (Nw.refl _).alloc _
  have P0 := P0.nw nn
  have P1 := P1.nw nn
  have NN := NN.trans nn
  have HLP := HLP.nw nn
  clear nn
  have P3 : Pcs (((((wc).alloc (.cells (pcV ⟨[115, 48], 0, 1, false⟩).toArray 32 (0, 0))).alloc (.cells (pcV ⟨[115, 48], 0, 0, true⟩).toArray 32 (0, 0))).alloc (.cells (pcV ⟨[115, 48], 1, 0, false⟩).toArray 32 (0, 0))).alloc (.cells (pcV ⟨[109, 97, 110, 105, 102, 101, 115, 116], 0, 0, false⟩).toArray 32 (0, 0))) (.slice (some ⟨wc.heap.size + 1 + 1 + 1, 0, none⟩) 1 1) [⟨[109, 97, 110, 105, 102, 101, 115, 116], 0, 0, false⟩] := by
    have h := pc_lit ((((wc).alloc (.cells (pcV ⟨[115, 48], 0, 1, false⟩).toArray 32 (0, 0))).alloc (.cells (pcV ⟨[115, 48], 0, 0, true⟩).toArray 32 (0, 0))).alloc (.cells (pcV ⟨[115, 48], 1, 0, false⟩).toArray 32 (0, 0))) ⟨[109, 97, 110, 105, 102, 101, 115, 116], 0, 0, false⟩ (pc_ok (by decide) (by decide))
    have e : ((((wc).alloc (.cells (pcV ⟨[115, 48], 0, 1, false⟩).toArray 32 (0, 0))).alloc (.cells (pcV ⟨[115, 48], 0, 0, true⟩).toArray 32 (0, 0))).alloc (.cells (pcV ⟨[115, 48], 1, 0, false⟩).toArray 32 (0, 0))).heap.size = wc.heap.size + 1 + 1 + 1 := by simp
    rw [e] at h
    exact h
  have nn : Nw ((((wc).alloc (.cells (pcV ⟨[115, 48], 0, 1, false⟩).toArray 32 (0, 0))).alloc (.cells (pcV ⟨[115, 48], 0, 0, true⟩).toArray 32 (0, 0))).alloc (.cells (pcV ⟨[115, 48], 1, 0, false⟩).toArray 32 (0, 0))) (((((wc).alloc (.cells (pcV ⟨[115, 48], 0, 1, false⟩).toArray 32 (0, 0))).alloc (.cells (pcV ⟨[115, 48], 0, 0, true⟩).toArray 32 (0, 0))).alloc (.cells (pcV ⟨[115, 48], 1, 0, false⟩).toArray 32 (0, 0))).alloc (.cells (pcV ⟨[109, 97, 110, 105, 102, 101, 115, 116], 0, 0, false⟩).toArray 32 (0, 0))) := (Nw.refl _).alloc _
  have P0 := P0.nw nn
  have P1 := P1.nw nn
  have P2 := P2.nw nn
  have NN := NN.trans nn
  have HLP := HLP.nw nn
  clear nn
  have P4 : Pcs ((((((wc).alloc (.cells (pcV ⟨[115, 48], 0, 1, false⟩).toArray 32 (0, 0))).alloc (.cells (pcV ⟨[115, 48], 0, 0, true⟩).toArray 32 (0, 0))).alloc (.cells (pcV ⟨[115, 48], 1, 0, false⟩).toArray 32 (0, 0))).alloc (.cells (pcV ⟨[109, 97, 110, 105, 102, 101, 115, 116], 0, 0, false⟩).toArray 32 (0, 0))).alloc (.cells (pcV ⟨[109, 97, 110, 105, 102, 101, 115, 116, 46, 110, 101, 119], 0, 0, false⟩).toArray 32 (0, 0))) (.slice (some ⟨wc.heap.size + 1 + 1 + 1 + 1, 0, none⟩) 1 1) [⟨[109, 97, 110, 105, 102, 101, 115, 116, 46, 110, 101, 119], 0, 0, false⟩] := by
    have h := pc_lit (((((wc).alloc (.cells (pcV ⟨[115, 48], 0, 1, false⟩).toArray 32 (0, 0))).alloc (.cells (pcV ⟨[115, 48], 0, 0, true⟩).toArray 32 (0, 0))).alloc (.cells (pcV ⟨[115, 48], 1, 0, false⟩).toArray 32 (0, 0))).alloc (.cells (pcV ⟨[109, 97, 110, 105, 102, 101, 115, 116], 0, 0, false⟩).toArray 32 (0, 0))) ⟨[109, 97, 110, 105, 102, 101, 115, 116, 46, 110, 101, 119], 0, 0, false⟩ (pc_ok (by decide) (by decide))
    have e : (((((wc).alloc (.cells (pcV ⟨[115, 48], 0, 1, false⟩).toArray 32 (0, 0))).alloc (.cells (pcV ⟨[115, 48], 0, 0, true⟩).toArray 32 (0, 0))).alloc (.cells (pcV ⟨[115, 48], 1, 0, false⟩).toArray 32 (0, 0))).alloc (.cells (pcV ⟨[109, 97, 110, 105, 102, 101, 115, 116], 0, 0, false⟩).toArray 32 (0, 0))).heap.size = wc.heap.size + 1 + 1 + 1 + 1 := by simp
    rw [e] at h
    exact h
  have nn : Nw (((((wc).alloc (.cells (pcV ⟨[115, 48], 0, 1, false⟩).toArray 32 (0, 0))).alloc (.cells (pcV ⟨[115, 48], 0, 0, true⟩).toArray 32 (0, 0))).alloc (.cells (pcV ⟨[115, 48], 1, 0, false⟩).toArray 32 (0, 0))).alloc (.cells (pcV ⟨[109, 97, 110, 105, 102, 101, 115, 116], 0, 0, false⟩).toArray 32 (0, 0))) ((((((wc).alloc (.cells (pcV ⟨[115, 48], 0, 1, false⟩).toArray 32 (0, 0))).alloc (.cells (pcV ⟨[115, 48], 0, 0, true⟩).toArray 32 (0, 0))).alloc (.cells (pcV ⟨[115, 48], 1, 0, false⟩).toArray 32 (0, 0))).alloc (.cells (pcV ⟨[109, 97, 110, 105, 102, 101, 115, 116], 0, 0, false⟩).toArray 32 (0, 0))).alloc (.cells (pcV ⟨[109, 97, 110, 105, 102, 101, 115, 116, 46, 110, 101, 119], 0, 0, false⟩).toArray 32 (0, 0))) := (Nw.refl _).alloc _
  have P0 := P0.nw nn
  have P1 := P1.nw nn
  have P2 := P2.nw nn
  have P3 := P3.nw nn
  have NN := NN.trans nn
  have HLP := HLP.nw nn
  clear nn
  have P5 : Pcs (((((((wc).alloc (.cells (pcV ⟨[115, 48], 0, 1, false⟩).toArray 32 (0, 0))).alloc (.cells (pcV ⟨[115, 48], 0, 0, true⟩).toArray 32 (0, 0))).alloc (.cells (pcV ⟨[115, 48], 1, 0, false⟩).toArray 32 (0, 0))).alloc (.cells (pcV ⟨[109, 97, 110, 105, 102, 101, 115, 116], 0, 0, false⟩).toArray 32 (0, 0))).alloc (.cells (pcV ⟨[109, 97, 110, 105, 102, 101, 115, 116, 46, 110, 101, 119], 0, 0, false⟩).toArray 32 (0, 0))).alloc (.cells (pcV ⟨[65], 0, 0, false⟩).toArray 32 (0, 0))) (.slice (some ⟨wc.heap.size + 1 + 1 + 1 + 1 + 1, 0, none⟩) 1 1) [⟨[65], 0, 0, false⟩] := by
    have h := pc_lit ((((((wc).alloc (.cells (pcV ⟨[115, 48], 0, 1, false⟩).toArray 32 (0, 0))).alloc (.cells (pcV ⟨[115, 48], 0, 0, true⟩).toArray 32 (0, 0))).alloc (.cells (pcV ⟨[115, 48], 1, 0, false⟩).toArray 32 (0, 0))).alloc (.cells (pcV ⟨[109, 97, 110, 105, 102, 101, 115, 116], 0, 0, false⟩).toArray 32 (0, 0))).alloc (.cells (pcV ⟨[109, 97, 110, 105, 102, 101, 115, 116, 46, 110, 101, 119], 0, 0, false⟩).toArray 32 (0, 0))) ⟨[65], 0, 0, false⟩ (pc_ok (by decide) (by decide))
    have e : ((((((wc).alloc (.cells (pcV ⟨[115, 48], 0, 1, false⟩).toArray 32 (0, 0))).alloc (.cells (pcV ⟨[115, 48], 0, 0, true⟩).toArray 32 (0, 0))).alloc (.cells (pcV ⟨[115, 48], 1, 0, false⟩).toArray 32 (0, 0))).alloc (.cells (pcV ⟨[109, 97, 110, 105, 102, 101, 115, 116], 0, 0, false⟩).toArray 32 (0, 0))).alloc (.cells (pcV ⟨[109, 97, 110, 105, 102, 101, 115, 116, 46, 110, 101, 119], 0, 0, false⟩).toArray 32 (0, 0))).heap.size = wc.heap.size + 1 + 1 + 1 + 1 + 1 := by simp
    rw [e] at h
    exact h
  have nn : Nw ((((((wc).alloc (.cells (pcV ⟨[115, 48], 0, 1, false⟩).toArray 32 (0, 0))).alloc (.cells (pcV ⟨[115, 48], 0, 0, true⟩).toArray 32 (0, 0))).alloc (.cells (pcV ⟨[115, 48], 1, 0, false⟩).toArray 32 (0, 0))).alloc (.cells (pcV ⟨[109, 97, 110, 105, 102, 101, 115, 116], 0, 0, false⟩).toArray 32 (0, 0))).alloc (.cells (pcV ⟨[109, 97, 110, 105, 102, 101, 115, 116, 46, 110, 101, 119], 0, 0, false⟩).toArray 32 (0, 0))) (((((((wc).alloc (.cells (pcV ⟨[115, 48], 0, 1, false⟩).toArray 32 (0, 0))).alloc (.cells (pcV ⟨[115, 48], 0, 0, true⟩).toArray 32 (0, 0))).alloc (.cells (pcV ⟨[115, 48], 1, 0, false⟩).toArray 32 (0, 0))).alloc (.cells (pcV ⟨[109, 97, 110, 105, 102, 101, 115, 116], 0, 0, false⟩).toArray 32 (0, 0))).alloc (.cells (pcV ⟨[109, 97, 110, 105, 102, 101, 115, 116, 46, 110, 101, 119], 0, 0, false⟩).toArray 32 (0, 0))).alloc (.cells (pcV ⟨[65], 0, 0, false⟩).toArray 32 (0, 0))) := (Nw.refl _).alloc _
  have P0 := P0.nw nn
  have P1 := P1.nw nn
  have P2 := P2.nw nn
  have P3 := P3.nw nn
  have P4 := P4.nw nn
  have NN := NN.trans nn
  have HLP := HLP.nw nn
  clear nn
  have P6 : Pcs ((((((((wc).alloc (.cells (pcV ⟨[115, 48], 0, 1, false⟩).toArray 32 (0, 0))).alloc (.cells (pcV ⟨[115, 48], 0, 0, true⟩).toArray 32 (0, 0))).alloc (.cells (pcV ⟨[115, 48], 1, 0, false⟩).toArray 32 (0, 0))).alloc (.cells (pcV ⟨[109, 97, 110, 105, 102, 101, 115, 116], 0, 0, false⟩).toArray 32 (0, 0))).alloc (.cells (pcV ⟨[109, 97, 110, 105, 102, 101, 115, 116, 46, 110, 101, 119], 0, 0, false⟩).toArray 32 (0, 0))).alloc (.cells (pcV ⟨[65], 0, 0, false⟩).toArray 32 (0, 0))).alloc (.cells (pcV ⟨[], 0, 0, false⟩).toArray 32 (0, 0))) (.slice (some ⟨wc.heap.size + 1 + 1 + 1 + 1 + 1 + 1, 0, none⟩) 1 1) [⟨[], 0, 0, false⟩] := by
    have h := pc_lit (((((((wc).alloc (.cells (pcV ⟨[115, 48], 0, 1, false⟩).toArray 32 (0, 0))).alloc (.cells (pcV ⟨[115, 48], 0, 0, true⟩).toArray 32 (0, 0))).alloc (.cells (pcV ⟨[115, 48], 1, 0, false⟩).toArray 32 (0, 0))).alloc (.cells (pcV ⟨[109, 97, 110, 105, 102, 101, 115, 116], 0, 0, false⟩).toArray 32 (0, 0))).alloc (.cells (pcV ⟨[109, 97, 110, 105, 102, 101, 115, 116, 46, 110, 101, 119], 0, 0, false⟩).toArray 32 (0, 0))).alloc (.cells (pcV ⟨[65], 0, 0, false⟩).toArray 32 (0, 0))) ⟨[], 0, 0, false⟩ (pc_ok (by decide) (by decide))
    have e : (((((((wc).alloc (.cells (pcV ⟨[115, 48], 0, 1, false⟩).toArray 32 (0, 0))).alloc (.cells (pcV ⟨[115, 48], 0, 0, true⟩).toArray 32 (0, 0))).alloc (.cells (pcV ⟨[115, 48], 1, 0, false⟩).toArray 32 (0, 0))).alloc (.cells (pcV ⟨[109, 97, 110, 105, 102, 101, 115, 116], 0, 0, false⟩).toArray 32 (0, 0))).alloc (.cells (pcV ⟨[109, 97, 110, 105, 102, 101, 115, 116, 46, 110, 101, 119], 0, 0, false⟩).toArray 32 (0, 0))).alloc (.cells (pcV ⟨[65], 0, 0, false⟩).toArray 32 (0, 0))).heap.size = wc.heap.size + 1 + 1 + 1 + 1 + 1 + 1 := by simp
    rw [e] at h
    exact h
  have nn : Nw (((((((wc).alloc (.cells (pcV ⟨[115, 48], 0, 1, false⟩).toArray 32 (0, 0))).alloc (.cells (pcV ⟨[115, 48], 0, 0, true⟩).toArray 32 (0, 0))).alloc (.cells (pcV ⟨[115, 48], 1, 0, false⟩).toArray 32 (0, 0))).alloc (.cells (pcV ⟨[109, 97, 110, 105, 102, 101, 115, 116], 0, 0, false⟩).toArray 32 (0, 0))).alloc (.cells (pcV ⟨[109, 97, 110, 105, 102, 101, 115, 116, 46, 110, 101, 119], 0, 0, false⟩).toArray 32 (0, 0))).alloc (.cells (pcV ⟨[65], 0, 0, false⟩).toArray 32 (0, 0))) ((((((((wc).alloc (.cells (pcV ⟨[115, 48], 0, 1, false⟩).toArray 32 (0, 0))).alloc (.cells (pcV ⟨[115, 48], 0, 0, true⟩).toArray 32 (0, 0))).alloc (.cells (pcV ⟨[115, 48], 1, 0, false⟩).toArray 32 (0, 0))).alloc (.cells (pcV ⟨[109, 97, 110, 105, 102, 101, 115, 116], 0, 0, false⟩).toArray 32 (0, 0))).alloc (.cells (pcV ⟨[109, 97, 110, 105, 102, 101, 115, 116, 46, 110, 101, 119], 0, 0, false⟩).toArray 32 (0, 0))).alloc (.cells (pcV ⟨[65], 0, 0, false⟩).toArray 32 (0, 0))).alloc (.cells (pcV ⟨[], 0, 0, false⟩).toArray 32 (0, 0))) := (Nw.refl _).alloc _
  have P0 := P0.nw nn
  have P1 := P1.nw nn
  have P2 := P2.nw nn
  have P3 := P3.nw nn
  have P4 := P4.nw nn
  have P5 := P5.nw nn
  have NN := NN.trans nn
  have HLP := HLP.nw nn
  clear nn
  go_wp2_with fail
  refine (repeat_a _).mono ?_
  rintro e w8 ⟨rfl, n8⟩
  have n8 : Nw ((((((((wc).alloc (.cells (pcV ⟨[115, 48], 0, 1, false⟩).toArray 32 (0, 0))).alloc (.cells (pcV ⟨[115, 48], 0, 0, true⟩).toArray 32 (0, 0))).alloc (.cells (pcV ⟨[115, 48], 1, 0, false⟩).toArray 32 (0, 0))).alloc (.cells (pcV ⟨[109, 97, 110, 105, 102, 101, 115, 116], 0, 0, false⟩).toArray 32 (0, 0))).alloc (.cells (pcV ⟨[109, 97, 110, 105, 102, 101, 115, 116, 46, 110, 101, 119], 0, 0, false⟩).toArray 32 (0, 0))).alloc (.cells (pcV ⟨[65], 0, 0, false⟩).toArray 32 (0, 0))).alloc (.cells (pcV ⟨[], 0, 0, false⟩).toArray 32 (0, 0))) w8 := n8
  have P0 := P0.nw n8
  have P1 := P1.nw n8
  have P2 := P2.nw n8
  have P3 := P3.nw n8
  have P4 := P4.nw n8
  have P5 := P5.nw n8
  have P6 := P6.nw n8
  have NN := NN.trans n8
  have HLP := HLP.nw n8
  clear n8
  have P7 : Pcs ((w8).alloc (.cells (pcV ⟨List.replicate 41 97, 0, 0, false⟩).toArray 32 (0, 0))) (.slice (some ⟨w8.heap.size, 0, none⟩) 1 1) [⟨List.replicate 41 97, 0, 0, false⟩] := by
    have h := pc_lit (w8) ⟨List.replicate 41 97, 0, 0, false⟩ (pc_ok (by decide) (by decide))
    have e : (w8).heap.size = w8.heap.size := by simp
    rw [e] at h
    exact h
  have nn : Nw (w8) ((w8).alloc (.cells (pcV ⟨List.replicate 41 97, 0, 0, false⟩).toArray 32 (0, 0))) := (Nw.refl _).alloc _
  have P0 := P0.nw nn
  have P1 := P1.nw nn
  have P2 := P2.nw nn
  have P3 := P3.nw nn
  have P4 := P4.nw nn
  have P5 := P5.nw nn
  have P6 := P6.nw nn
  have NN := NN.trans nn
  have HLP := HLP.nw nn
  clear nn
  have P8 : Pcs (((w8).alloc (.cells (pcV ⟨List.replicate 41 97, 0, 0, false⟩).toArray 32 (0, 0))).alloc (.cells (pcV ⟨[97], 0, 1, false⟩ ++ pcV ⟨[97], 1, 0, false⟩).toArray 32 (0, 0))) (.slice (some ⟨w8.heap.size + 1, 0, none⟩) 2 2) [⟨[97], 0, 1, false⟩, ⟨[97], 1, 0, false⟩] := by
    have h := pc_lit2 ((w8).alloc (.cells (pcV ⟨List.replicate 41 97, 0, 0, false⟩).toArray 32 (0, 0))) ⟨[97], 0, 1, false⟩ ⟨[97], 1, 0, false⟩ (pc_ok (by decide) (by decide)) (pc_ok (by decide) (by decide))
    have e : ((w8).alloc (.cells (pcV ⟨List.replicate 41 97, 0, 0, false⟩).toArray 32 (0, 0))).heap.size = w8.heap.size + 1 := by simp
    rw [e] at h
    exact h
  have nn : Nw ((w8).alloc (.cells (pcV ⟨List.replicate 41 97, 0, 0, false⟩).toArray 32 (0, 0))) (((w8).alloc (.cells (pcV ⟨List.replicate 41 97, 0, 0, false⟩).toArray 32 (0, 0))).alloc (.cells (pcV ⟨[97], 0, 1, false⟩ ++ pcV ⟨[97], 1, 0, false⟩).toArray 32 (0, 0))) := (Nw.refl _).alloc _
  have P0 := P0.nw nn
  have P1 := P1.nw nn
  have P2 := P2.nw nn
  have P3 := P3.nw nn
  have P4 := P4.nw nn
  have P5 := P5.nw nn
  have P6 := P6.nw nn
  have P7 := P7.nw nn
  have NN := NN.trans nn
  have HLP := HLP.nw nn
  clear nn
  have P9 : Pcs ((((w8).alloc (.cells (pcV ⟨List.replicate 41 97, 0, 0, false⟩).toArray 32 (0, 0))).alloc (.cells (pcV ⟨[97], 0, 1, false⟩ ++ pcV ⟨[97], 1, 0, false⟩).toArray 32 (0, 0))).alloc (.cells (pcV ⟨[97], 0, 0, false⟩ ++ pcV ⟨[98], 0, 0, false⟩).toArray 32 (0, 0))) (.slice (some ⟨w8.heap.size + 1 + 1, 0, none⟩) 2 2) [⟨[97], 0, 0, false⟩, ⟨[98], 0, 0, false⟩] := by
    have h := pc_lit2 (((w8).alloc (.cells (pcV ⟨List.replicate 41 97, 0, 0, false⟩).toArray 32 (0, 0))).alloc (.cells (pcV ⟨[97], 0, 1, false⟩ ++ pcV ⟨[97], 1, 0, false⟩).toArray 32 (0, 0))) ⟨[97], 0, 0, false⟩ ⟨[98], 0, 0, false⟩ (pc_ok (by decide) (by decide)) (pc_ok (by decide) (by decide))
    have e : (((w8).alloc (.cells (pcV ⟨List.replicate 41 97, 0, 0, false⟩).toArray 32 (0, 0))).alloc (.cells (pcV ⟨[97], 0, 1, false⟩ ++ pcV ⟨[97], 1, 0, false⟩).toArray 32 (0, 0))).heap.size = w8.heap.size + 1 + 1 := by simp
    rw [e] at h
    exact h
  have nn : Nw (((w8).alloc (.cells (pcV ⟨List.replicate 41 97, 0, 0, false⟩).toArray 32 (0, 0))).alloc (.cells (pcV ⟨[97], 0, 1, false⟩ ++ pcV ⟨[97], 1, 0, false⟩).toArray 32 (0, 0))) ((((w8).alloc (.cells (pcV ⟨List.replicate 41 97, 0, 0, false⟩).toArray 32 (0, 0))).alloc (.cells (pcV ⟨[97], 0, 1, false⟩ ++ pcV ⟨[97], 1, 0, false⟩).toArray 32 (0, 0))).alloc (.cells (pcV ⟨[97], 0, 0, false⟩ ++ pcV ⟨[98], 0, 0, false⟩).toArray 32 (0, 0))) := (Nw.refl _).alloc _
  have P0 := P0.nw nn
  have P1 := P1.nw nn
  have P2 := P2.nw nn
  have P3 := P3.nw nn
  have P4 := P4.nw nn
  have P5 := P5.nw nn
  have P6 := P6.nw nn
  have P7 := P7.nw nn
  have P8 := P8.nw nn
  have NN := NN.trans nn
  have HLP := HLP.nw nn
  clear nn
  have P10 : Pcs (((((w8).alloc (.cells (pcV ⟨List.replicate 41 97, 0, 0, false⟩).toArray 32 (0, 0))).alloc (.cells (pcV ⟨[97], 0, 1, false⟩ ++ pcV ⟨[97], 1, 0, false⟩).toArray 32 (0, 0))).alloc (.cells (pcV ⟨[97], 0, 0, false⟩ ++ pcV ⟨[98], 0, 0, false⟩).toArray 32 (0, 0))).alloc (.cells (pcV ⟨[97], 0, 1099511627777, false⟩ ++ pcV ⟨[98], 1099511627777, 0, false⟩).toArray 32 (0, 0))) (.slice (some ⟨w8.heap.size + 1 + 1 + 1, 0, none⟩) 2 2) [⟨[97], 0, 1099511627777, false⟩, ⟨[98], 1099511627777, 0, false⟩] := by
    have h := pc_lit2 ((((w8).alloc (.cells (pcV ⟨List.replicate 41 97, 0, 0, false⟩).toArray 32 (0, 0))).alloc (.cells (pcV ⟨[97], 0, 1, false⟩ ++ pcV ⟨[97], 1, 0, false⟩).toArray 32 (0, 0))).alloc (.cells (pcV ⟨[97], 0, 0, false⟩ ++ pcV ⟨[98], 0, 0, false⟩).toArray 32 (0, 0))) ⟨[97], 0, 1099511627777, false⟩ ⟨[98], 1099511627777, 0, false⟩ (pc_ok (by decide) (by decide)) (pc_ok (by decide) (by decide))
    have e : ((((w8).alloc (.cells (pcV ⟨List.replicate 41 97, 0, 0, false⟩).toArray 32 (0, 0))).alloc (.cells (pcV ⟨[97], 0, 1, false⟩ ++ pcV ⟨[97], 1, 0, false⟩).toArray 32 (0, 0))).alloc (.cells (pcV ⟨[97], 0, 0, false⟩ ++ pcV ⟨[98], 0, 0, false⟩).toArray 32 (0, 0))).heap.size = w8.heap.size + 1 + 1 + 1 := by simp
    rw [e] at h
    exact h
  have nn : Nw ((((w8).alloc (.cells (pcV ⟨List.replicate 41 97, 0, 0, false⟩).toArray 32 (0, 0))).alloc (.cells (pcV ⟨[97], 0, 1, false⟩ ++ pcV ⟨[97], 1, 0, false⟩).toArray 32 (0, 0))).alloc (.cells (pcV ⟨[97], 0, 0, false⟩ ++ pcV ⟨[98], 0, 0, false⟩).toArray 32 (0, 0))) (((((w8).alloc (.cells (pcV ⟨List.replicate 41 97, 0, 0, false⟩).toArray 32 (0, 0))).alloc (.cells (pcV ⟨[97], 0, 1, false⟩ ++ pcV ⟨[97], 1, 0, false⟩).toArray 32 (0, 0))).alloc (.cells (pcV ⟨[97], 0, 0, false⟩ ++ pcV ⟨[98], 0, 0, false⟩).toArray 32 (0, 0))).alloc (.cells (pcV ⟨[97], 0, 1099511627777, false⟩ ++ pcV ⟨[98], 1099511627777, 0, false⟩).toArray 32 (0, 0))) := (Nw.refl _).alloc _
  have P0 := P0.nw nn
  have P1 := P1.nw nn
  have P2 := P2.nw nn
  have P3 := P3.nw nn
  have P4 := P4.nw nn
  have P5 := P5.nw nn
  have P6 := P6.nw nn
  have P7 := P7.nw nn
  have P8 := P8.nw nn
  have P9 := P9.nw nn
  have NN := NN.trans nn
  have HLP := HLP.nw nn
  clear nn
  have P11 : Pcs ((((((w8).alloc (.cells (pcV ⟨List.replicate 41 97, 0, 0, false⟩).toArray 32 (0, 0))).alloc (.cells (pcV ⟨[97], 0, 1, false⟩ ++ pcV ⟨[97], 1, 0, false⟩).toArray 32 (0, 0))).alloc (.cells (pcV ⟨[97], 0, 0, false⟩ ++ pcV ⟨[98], 0, 0, false⟩).toArray 32 (0, 0))).alloc (.cells (pcV ⟨[97], 0, 1099511627777, false⟩ ++ pcV ⟨[98], 1099511627777, 0, false⟩).toArray 32 (0, 0))).alloc (.cells (pcV ⟨[97], 0, 2, false⟩ ++ pcV ⟨[98], 1, 0, false⟩).toArray 32 (0, 0))) (.slice (some ⟨w8.heap.size + 1 + 1 + 1 + 1, 0, none⟩) 2 2) [⟨[97], 0, 2, false⟩, ⟨[98], 1, 0, false⟩] := by
    have h := pc_lit2 (((((w8).alloc (.cells (pcV ⟨List.replicate 41 97, 0, 0, false⟩).toArray 32 (0, 0))).alloc (.cells (pcV ⟨[97], 0, 1, false⟩ ++ pcV ⟨[97], 1, 0, false⟩).toArray 32 (0, 0))).alloc (.cells (pcV ⟨[97], 0, 0, false⟩ ++ pcV ⟨[98], 0, 0, false⟩).toArray 32 (0, 0))).alloc (.cells (pcV ⟨[97], 0, 1099511627777, false⟩ ++ pcV ⟨[98], 1099511627777, 0, false⟩).toArray 32 (0, 0))) ⟨[97], 0, 2, false⟩ ⟨[98], 1, 0, false⟩ (pc_ok (by decide) (by decide)) (pc_ok (by decide) (by decide))
    have e : (((((w8).alloc (.cells (pcV ⟨List.replicate 41 97, 0, 0, false⟩).toArray 32 (0, 0))).alloc (.cells (pcV ⟨[97], 0, 1, false⟩ ++ pcV ⟨[97], 1, 0, false⟩).toArray 32 (0, 0))).alloc (.cells (pcV ⟨[97], 0, 0, false⟩ ++ pcV ⟨[98], 0, 0, false⟩).toArray 32 (0, 0))).alloc (.cells (pcV ⟨[97], 0, 1099511627777, false⟩ ++ pcV ⟨[98], 1099511627777, 0, false⟩).toArray 32 (0, 0))).heap.size = w8.heap.size + 1 + 1 + 1 + 1 := by simp
    rw [e] at h
    exact h
  have nn : Nw (((((w8).alloc (.cells (pcV ⟨List.replicate 41 97, 0, 0, false⟩).toArray 32 (0, 0))).alloc (.cells (pcV ⟨[97], 0, 1, false⟩ ++ pcV ⟨[97], 1, 0, false⟩).toArray 32 (0, 0))).alloc (.cells (pcV ⟨[97], 0, 0, false⟩ ++ pcV ⟨[98], 0, 0, false⟩).toArray 32 (0, 0))).alloc (.cells (pcV ⟨[97], 0, 1099511627777, false⟩ ++ pcV ⟨[98], 1099511627777, 0, false⟩).toArray 32 (0, 0))) ((((((w8).alloc (.cells (pcV ⟨List.replicate 41 97, 0, 0, false⟩).toArray 32 (0, 0))).alloc (.cells (pcV ⟨[97], 0, 1, false⟩ ++ pcV ⟨[97], 1, 0, false⟩).toArray 32 (0, 0))).alloc (.cells (pcV ⟨[97], 0, 0, false⟩ ++ pcV ⟨[98], 0, 0, false⟩).toArray 32 (0, 0))).alloc (.cells (pcV ⟨[97], 0, 1099511627777, false⟩ ++ pcV ⟨[98], 1099511627777, 0, false⟩).toArray 32 (0, 0))).alloc (.cells (pcV ⟨[97], 0, 2, false⟩ ++ pcV ⟨[98], 1, 0, false⟩).toArray 32 (0, 0))) := (Nw.refl _).alloc _
  have P0 := P0.nw nn
  have P1 := P1.nw nn
  have P2 := P2.nw nn
  have P3 := P3.nw nn
  have P4 := P4.nw nn
  have P5 := P5.nw nn
  have P6 := P6.nw nn
  have P7 := P7.nw nn
  have P8 := P8.nw nn
  have P9 := P9.nw nn
  have P10 := P10.nw nn
  have NN := NN.trans nn
  have HLP := HLP.nw nn
  clear nn
  go_wp2_with fail
  have B := heap_alloc_new ((((((w8).alloc (.cells (pcV ⟨List.replicate 41 97, 0, 0, false⟩).toArray 32 (0, 0))).alloc (.cells (pcV ⟨[97], 0, 1, false⟩ ++ pcV ⟨[97], 1, 0, false⟩).toArray 32 (0, 0))).alloc (.cells (pcV ⟨[97], 0, 0, false⟩ ++ pcV ⟨[98], 0, 0, false⟩).toArray 32 (0, 0))).alloc (.cells (pcV ⟨[97], 0, 1099511627777, false⟩ ++ pcV ⟨[98], 1099511627777, 0, false⟩).toArray 32 (0, 0))).alloc (.cells (pcV ⟨[97], 0, 2, false⟩ ++ pcV ⟨[98], 1, 0, false⟩).toArray 32 (0, 0))) (.cells #[.slice none 0 0, .slice (some ⟨lg, 0, none⟩) 101 101, .slice (some ⟨wc.heap.size, 0, none⟩) 1 1, .slice (some ⟨wc.heap.size + 1, 0, none⟩) 1 1, .slice (some ⟨wc.heap.size + 1 + 1, 0, none⟩) 1 1, .slice (some ⟨wc.heap.size + 1 + 1 + 1, 0, none⟩) 1 1, .slice (some ⟨wc.heap.size + 1 + 1 + 1 + 1, 0, none⟩) 1 1, .slice (some ⟨wc.heap.size + 1 + 1 + 1 + 1 + 1, 0, none⟩) 1 1, .slice (some ⟨wc.heap.size + 1 + 1 + 1 + 1 + 1 + 1, 0, none⟩) 1 1, .slice (some ⟨w8.heap.size, 0, none⟩) 1 1, .slice (some ⟨w8.heap.size + 1, 0, none⟩) 2 2, .slice (some ⟨w8.heap.size + 1 + 1, 0, none⟩) 2 2, .slice (some ⟨w8.heap.size + 1 + 1 + 1, 0, none⟩) 2 2, .slice (some ⟨w8.heap.size + 1 + 1 + 1 + 1, 0, none⟩) 2 2] 28 (0, 0))
  have eB : ((((((w8).alloc (.cells (pcV ⟨List.replicate 41 97, 0, 0, false⟩).toArray 32 (0, 0))).alloc (.cells (pcV ⟨[97], 0, 1, false⟩ ++ pcV ⟨[97], 1, 0, false⟩).toArray 32 (0, 0))).alloc (.cells (pcV ⟨[97], 0, 0, false⟩ ++ pcV ⟨[98], 0, 0, false⟩).toArray 32 (0, 0))).alloc (.cells (pcV ⟨[97], 0, 1099511627777, false⟩ ++ pcV ⟨[98], 1099511627777, 0, false⟩).toArray 32 (0, 0))).alloc (.cells (pcV ⟨[97], 0, 2, false⟩ ++ pcV ⟨[98], 1, 0, false⟩).toArray 32 (0, 0))).heap.size = w8.heap.size + 1 + 1 + 1 + 1 + 1 := by simp
  rw [eB] at B
  have nr : Nw ((((((w8).alloc (.cells (pcV ⟨List.replicate 41 97, 0, 0, false⟩).toArray 32 (0, 0))).alloc (.cells (pcV ⟨[97], 0, 1, false⟩ ++ pcV ⟨[97], 1, 0, false⟩).toArray 32 (0, 0))).alloc (.cells (pcV ⟨[97], 0, 0, false⟩ ++ pcV ⟨[98], 0, 0, false⟩).toArray 32 (0, 0))).alloc (.cells (pcV ⟨[97], 0, 1099511627777, false⟩ ++ pcV ⟨[98], 1099511627777, 0, false⟩).toArray 32 (0, 0))).alloc (.cells (pcV ⟨[97], 0, 2, false⟩ ++ pcV ⟨[98], 1, 0, false⟩).toArray 32 (0, 0))) (((((((w8).alloc (.cells (pcV ⟨List.replicate 41 97, 0, 0, false⟩).toArray 32 (0, 0))).alloc (.cells (pcV ⟨[97], 0, 1, false⟩ ++ pcV ⟨[97], 1, 0, false⟩).toArray 32 (0, 0))).alloc (.cells (pcV ⟨[97], 0, 0, false⟩ ++ pcV ⟨[98], 0, 0, false⟩).toArray 32 (0, 0))).alloc (.cells (pcV ⟨[97], 0, 1099511627777, false⟩ ++ pcV ⟨[98], 1099511627777, 0, false⟩).toArray 32 (0, 0))).alloc (.cells (pcV ⟨[97], 0, 2, false⟩ ++ pcV ⟨[98], 1, 0, false⟩).toArray 32 (0, 0))).alloc (.cells #[.slice none 0 0, .slice (some ⟨lg, 0, none⟩) 101 101, .slice (some ⟨wc.heap.size, 0, none⟩) 1 1, .slice (some ⟨wc.heap.size + 1, 0, none⟩) 1 1, .slice (some ⟨wc.heap.size + 1 + 1, 0, none⟩) 1 1, .slice (some ⟨wc.heap.size + 1 + 1 + 1, 0, none⟩) 1 1, .slice (some ⟨wc.heap.size + 1 + 1 + 1 + 1, 0, none⟩) 1 1, .slice (some ⟨wc.heap.size + 1 + 1 + 1 + 1 + 1, 0, none⟩) 1 1, .slice (some ⟨wc.heap.size + 1 + 1 + 1 + 1 + 1 + 1, 0, none⟩) 1 1, .slice (some ⟨w8.heap.size, 0, none⟩) 1 1, .slice (some ⟨w8.heap.size + 1, 0, none⟩) 2 2, .slice (some ⟨w8.heap.size + 1 + 1, 0, none⟩) 2 2, .slice (some ⟨w8.heap.size + 1 + 1 + 1, 0, none⟩) 2 2, .slice (some ⟨w8.heap.size + 1 + 1 + 1 + 1, 0, none⟩) 2 2] 28 (0, 0))) := (Nw.refl _).alloc _
  refine HQ.out _ _ _ _ _ _ _ _ _ _ _ _ _ _ _ _ _ _ _ _ _ _ _ _ _ _ _ _ _ _  _ _ ⟨lt_of_block B, fun i hi => ?_⟩ (NN.trans nr)
  match i, hi with
  | 0, _ => exact ⟨_, _, _, _, cell_of B (i := 0) rfl, pcs_nil, rfl⟩
  | 1, _ => exact ⟨_, _, _, _, cell_of B (i := 1) rfl, HLP.nw nr, long_right hll⟩
  | 2, _ => exact ⟨_, _, _, _, cell_of B (i := 2) rfl, P0.nw nr, bads_right _ (by simp [badsL, manifestS, nextS])⟩
  | 3, _ => exact ⟨_, _, _, _, cell_of B (i := 3) rfl, P1.nw nr, bads_right _ (by simp [badsL, manifestS, nextS])⟩
  | 4, _ => exact ⟨_, _, _, _, cell_of B (i := 4) rfl, P2.nw nr, bads_right _ (by simp [badsL, manifestS, nextS])⟩
  | 5, _ => exact ⟨_, _, _, _, cell_of B (i := 5) rfl, P3.nw nr, bads_right _ (by simp [badsL, manifestS, nextS])⟩
  | 6, _ => exact ⟨_, _, _, _, cell_of B (i := 6) rfl, P4.nw nr, bads_right _ (by simp [badsL, manifestS, nextS])⟩
  | 7, _ => exact ⟨_, _, _, _, cell_of B (i := 7) rfl, P5.nw nr, bads_right _ (by simp [badsL, manifestS, nextS])⟩
  | 8, _ => exact ⟨_, _, _, _, cell_of B (i := 8) rfl, P6.nw nr, bads_right _ (by simp [badsL, manifestS, nextS])⟩
  | 9, _ => exact ⟨_, _, _, _, cell_of B (i := 9) rfl, P7.nw nr, bads_right _ (by simp [badsL, manifestS, nextS])⟩
  | 10, _ => exact ⟨_, _, _, _, cell_of B (i := 10) rfl, P8.nw nr, bads_right _ (by simp [badsL, manifestS, nextS])⟩
  | 11, _ => exact ⟨_, _, _, _, cell_of B (i := 11) rfl, P9.nw nr, bads_right _ (by simp [badsL, manifestS, nextS])⟩
  | 12, _ => exact ⟨_, _, _, _, cell_of B (i := 12) rfl, P10.nw nr, bads_right _ (by simp [badsL, manifestS, nextS])⟩
  | 13, _ => exact ⟨_, _, _, _, cell_of B (i := 13) rfl, P11.nw nr, bads_right _ (by simp [badsL, manifestS, nextS])⟩

set_option maxHeartbeats 1600000 in
theorem r35 {w5 : World} {p : Nat} {arr : Array Value}
    (CA : Hid (∀ W, Nw w5 W → Calls Tryz.prog 31 #[.pointer (some ⟨p, 0, none⟩), .slice none 0 0] W fun e w' => e = .returned (.int .i64 2) ∧ W = w'))
    (CB : Hid (∀ W, Nw w5 W → ∀ a c, Evs W (.slice a 4097 c) (zs 4097) → Calls Tryz.prog 31 #[.pointer (some ⟨p, 0, none⟩), .slice a 4097 c] W fun e w' => e = .returned (.int .i64 3) ∧ W = w'))
    (MK : Hid (∀ W : World, (Instr.makeSlice 25 (.int .i64 4097) (.int .i64 4097)).run Tryz.prog W = .ok (.slice (some ⟨W.heap.size, 0, none⟩) 4097 4097) (W.alloc (.cells arr 73 (0, 0))) ∧
      Evs (W.alloc (.cells arr 73 (0, 0))) (.slice (some ⟨W.heap.size, 0, none⟩) 4097 4097) (zs 4097)))
    {u0 u1 u2 u3 u4 u5 u6 u7 u8 u9 u10 u11 u12 u13 u14 u15 u16 u17 u18 u19 u20 u21 u22 u23 u24 u25 u27 u28 u29 u30 u31 u32 u33 u34 u35 u36 u37 u38 u39 u40 u41 u42 u43 u44 u45 u46 u47 u48 u49 u50 u51 u52 u53 u54 u55 u56 u57 u58 u59 u60 u61 u62 u63 u64 u65 u66 u67 u68 u69 u70 u71 u72 u73 u74 u75 u76 u77 u78 u79 u80 u81 u82 u83 u84 u85 u86 u87 u88 u89 u90 u91 u92 u93 u94 u95 u96 u97 u98 u99 u100 u101 u102 u103 u104 u105 u106 u107 u108 u109 u110 u111 u112 u113 u114 u115 u116 u117 u118 u119 u120 u121 u122 u123 u124 u125 u126 u127 u128 u129 u130 u131 u132 u133 u134 u135 u136 u137 u138 u139 u140 u141 u142 u143 u144 u145 u146 u147 u148 u149 u150 u151 u152 u153 u154 u155 u156 u157 u158 u159 u160 u161 u162 u163 u164 u165 u166 u167 u168 u169 u170 u171 u172 u173 u174 u175 u176 u177 u178 u179 u180 u181 u182 u183 u184 u185 u186 u187 u188 u189 u190 u191 u192 u193 u194 u195 u196 u197 u198 u199 u200 u201 u202 u203 u204 u205 u206 u207 u208 u209 u210 u211 u212 u213 u214 u215 u216 u217 u218 u219 u220 u221 u222 u223 u224 u225 u226 u227 u228 u229 u230 u231 u232 u233 u234 u235 u236 u237 u238 u239 u240 u241 u242 u243 u244 u245 u246 u247 u248 u249 u250 u251 u252 u253 u254 u255 u256 u257 u258 u259 u260 u261 u262 u263 u264 u265 u266 u267 u268 u269 u270 u271 u272 u273 u274 u275 u276 u277 u278 u279 u280 u281 u282 u283 u284 u285 u286 u287 u288 u289 u290 u291 u292 u293 u294 u295 u296 u297 u298 u299 u300 u301 u302 u303 u304 u305 u306 u307 u308 u309 u310 u311 u312 u313 u314 u315 u316 u317 u318 u319 u320 u321 u322 u323 u324 u325 u326 u327 u328 : Value} {Q : Exit → Act → World → Prop}
    (hQ : ∀ (s31 s32 s250 s251 s252 s253 s254 : Value) (wx : World), Nw w5 wx → s31 = .int .i64 2 → s32 = .int .i64 3 → Q .normal ⟨#[u0, u1, u2, u3, u4, u5, u6, u7, u8, u9, u10, u11, u12, u13, u14, u15, u16, u17, u18, u19, u20, u21, u22, u23, u24, u25, .pointer (some ⟨p, 0, none⟩), u27, u28, u29, u30, s31, s32, u33, u34, u35, u36, u37, u38, u39, u40, u41, u42, u43, u44, u45, u46, u47, u48, u49, u50, u51, u52, u53, u54, u55, u56, u57, u58, u59, u60, u61, u62, u63, u64, u65, u66, u67, u68, u69, u70, u71, u72, u73, u74, u75, u76, u77, u78, u79, u80, u81, u82, u83, u84, u85, u86, u87, u88, u89, u90, u91, u92, u93, u94, u95, u96, u97, u98, u99, u100, u101, u102, u103, u104, u105, u106, u107, u108, u109, u110, u111, u112, u113, u114, u115, u116, u117, u118, u119, u120, u121, u122, u123, u124, u125, u126, u127, u128, u129, u130, u131, u132, u133, u134, u135, u136, u137, u138, u139, u140, u141, u142, u143, u144, u145, u146, u147, u148, u149, u150, u151, u152, u153, u154, u155, u156, u157, u158, u159, u160, u161, u162, u163, u164, u165, u166, u167, u168, u169, u170, u171, u172, u173, u174, u175, u176, u177, u178, u179, u180, u181, u182, u183, u184, u185, u186, u187, u188, u189, u190, u191, u192, u193, u194, u195, u196, u197, u198, u199, u200, u201, u202, u203, u204, u205, u206, u207, u208, u209, u210, u211, u212, u213, u214, u215, u216, u217, u218, u219, u220, u221, u222, u223, u224, u225, u226, u227, u228, u229, u230, u231, u232, u233, u234, u235, u236, u237, u238, u239, u240, u241, u242, u243, u244, u245, u246, u247, u248, u249, s250, s251, s252, s253, s254, u255, u256, u257, u258, u259, u260, u261, u262, u263, u264, u265, u266, u267, u268, u269, u270, u271, u272, u273, u274, u275, u276, u277, u278, u279, u280, u281, u282, u283, u284, u285, u286, u287, u288, u289, u290, u291, u292, u293, u294, u295, u296, u297, u298, u299, u300, u301, u302, u303, u304, u305, u306, u307, u308, u309, u310, u311, u312, u313, u314, u315, u316, u317, u318, u319, u320, u321, u322, u323, u324, u325, u326, u327, u328], []⟩ wx) :
    Code.wp Tryz.prog ((Tryz.f4.body.bind (regionOf 35)).getD .skip) Q ⟨#[u0, u1, u2, u3, u4, u5, u6, u7, u8, u9, u10, u11, u12, u13, u14, u15, u16, u17, u18, u19, u20, u21, u22, u23, u24, u25, .pointer (some ⟨p, 0, none⟩), u27, u28, u29, u30, u31, u32, u33, u34, u35, u36, u37, u38, u39, u40, u41, u42, u43, u44, u45, u46, u47, u48, u49, u50, u51, u52, u53, u54, u55, u56, u57, u58, u59, u60, u61, u62, u63, u64, u65, u66, u67, u68, u69, u70, u71, u72, u73, u74, u75, u76, u77, u78, u79, u80, u81, u82, u83, u84, u85, u86, u87, u88, u89, u90, u91, u92, u93, u94, u95, u96, u97, u98, u99, u100, u101, u102, u103, u104, u105, u106, u107, u108, u109, u110, u111, u112, u113, u114, u115, u116, u117, u118, u119, u120, u121, u122, u123, u124, u125, u126, u127, u128, u129, u130, u131, u132, u133, u134, u135, u136, u137, u138, u139, u140, u141, u142, u143, u144, u145, u146, u147, u148, u149, u150, u151, u152, u153, u154, u155, u156, u157, u158, u159, u160, u161, u162, u163, u164, u165, u166, u167, u168, u169, u170, u171, u172, u173, u174, u175, u176, u177, u178, u179, u180, u181, u182, u183, u184, u185, u186, u187, u188, u189, u190, u191, u192, u193, u194, u195, u196, u197, u198, u199, u200, u201, u202, u203, u204, u205, u206, u207, u208, u209, u210, u211, u212, u213, u214, u215, u216, u217, u218, u219, u220, u221, u222, u223, u224, u225, u226, u227, u228, u229, u230, u231, u232, u233, u234, u235, u236, u237, u238, u239, u240, u241, u242, u243, u244, u245, u246, u247, u248, u249, u250, u251, u252, u253, u254, u255, u256, u257, u258, u259, u260, u261, u262, u263, u264, u265, u266, u267, u268, u269, u270, u271, u272, u273, u274, u275, u276, u277, u278, u279, u280, u281, u282, u283, u284, u285, u286, u287, u288, u289, u290, u291, u292, u293, u294, u295, u296, u297, u298, u299, u300, u301, u302, u303, u304, u305, u306, u307, u308, u309, u310, u311, u312, u313, u314, u315, u316, u317, u318, u319, u320, u321, u322, u323, u324, u325, u326, u327, u328], []⟩ w5 := by
  dsimp only at hQ ⊢
  conv => arg 2; whnf
  have HQ := Lib.hid hQ
  clear hQ
  refine name_act fun A hA => ?_
  have hA26 : A.tmps[26]? = some (.pointer (some ⟨p, 0, none⟩)) := by rw [hA]; rfl
  have hlt0 : ∀ d ∈ ([250, 251, 252, 253, 254, 31, 32] : List Nat), d < 329 := by decide
  refine wp_region_tab [250, 251, 252, 253, 254, 31, 32] [isV (.pointer (some ⟨p, 0, none⟩)), isV (.int .i64 2), isV (.pointer (some ⟨p, 0, none⟩)), (⟨fun x w => ∃ a c, x = .slice a 4097 c ∧ Evs w x (zs 4097), fun x w w' ⟨a, c, h1, h2⟩ n => ⟨a, c, h1, h2.nw n⟩⟩), isV (.int .i64 3), isV (.int .i64 2), isV (.int .i64 3)] (by kernel_rfl) (by kernel_rfl) (by kernel_rfl) (of_decide_eq_true (by kernel_rfl)) (fun d hd => by rw [hA]; exact hlt0 d hd) (fun L hL => ⟨?a0, ?a1, ?a2, ?a3, ?a4, ?a5, ?a6, trivial⟩) ?he
  · intro a w hN old new
    have e26 := old 26 (.pointer (some ⟨p, 0, none⟩)) rfl hA26
    exact OpOk.val (.pointer (some ⟨p, 0, none⟩)) (w_none rfl) [(26, _)] (forall_cons e26 <| forall_nil) (fun ρ e ⟨c1, c2⟩ => by (try simp only [List.forall_mem_cons] at e); go_simp) ⟨Nw.refl _, rfl⟩
  · intro a w hN old new
    obtain ⟨y250, e250, g250⟩ := new 0 250 rfl rfl
    obtain rfl : y250 = .pointer (some ⟨p, 0, none⟩) := g250
    refine OpOk.call (w_none rfl) [(250, _)] (forall_cons e250 <| forall_nil) (fun ρ e ⟨c1, c2⟩ => by (try simp only [List.forall_mem_cons] at e); go_simp) (CA.out _ hN) (fun e w1 h => ?_)
    obtain ⟨rfl, rfl⟩ := h
    exact ⟨_, rfl, Nw.refl _, rfl⟩
  · intro a w hN old new
    have e26 := old 26 (.pointer (some ⟨p, 0, none⟩)) rfl hA26
    exact OpOk.val (.pointer (some ⟨p, 0, none⟩)) (w_none rfl) [(26, _)] (forall_cons e26 <| forall_nil) (fun ρ e ⟨c1, c2⟩ => by (try simp only [List.forall_mem_cons] at e); go_simp) ⟨Nw.refl _, rfl⟩
  · intro a w hN old new
    have hmk := (MK.out w).1
    exact OpOk.made (.slice (some ⟨w.heap.size, 0, none⟩) 4097 4097) (w.alloc (.cells arr 73 (0, 0))) (w_none rfl) [] (forall_nil) (fun ρ e ⟨c1, c2⟩ => by (try simp only [List.forall_mem_cons] at e); go_simp) ⟨(Nw.refl w).alloc _, ⟨_, _, rfl, (MK.out w).2⟩⟩
  · intro a w hN old new
    obtain ⟨y252, e252, g252⟩ := new 2 252 rfl rfl
    obtain rfl : y252 = .pointer (some ⟨p, 0, none⟩) := g252
    obtain ⟨y253, e253, g253⟩ := new 3 253 rfl rfl
    obtain ⟨a0, c0, rfl, q0⟩ := g253
    refine OpOk.call (w_none rfl) [(252, _), (253, _)] (forall_cons e252 <| forall_cons e253 <| forall_nil) (fun ρ e ⟨c1, c2⟩ => by (try simp only [List.forall_mem_cons] at e); go_simp) (CB.out _ hN a0 c0 q0) (fun e w1 h => ?_)
    obtain ⟨rfl, rfl⟩ := h
    exact ⟨_, rfl, Nw.refl _, rfl⟩
  · intro a w hN old new
    obtain ⟨y251, e251, g251⟩ := new 1 251 rfl rfl
    obtain rfl : y251 = .int .i64 2 := g251
    exact OpOk.val (.int .i64 2) (w_none rfl) [(251, _)] (forall_cons e251 <| forall_nil) (fun ρ e ⟨c1, c2⟩ => by (try simp only [List.forall_mem_cons] at e); go_simp) ⟨Nw.refl _, rfl⟩
  · intro a w hN old new
    obtain ⟨y254, e254, g254⟩ := new 4 254 rfl rfl
    obtain rfl : y254 = .int .i64 3 := g254
    exact OpOk.val (.int .i64 3) (w_none rfl) [(254, _)] (forall_cons e254 <| forall_nil) (fun ρ e ⟨c1, c2⟩ => by (try simp only [List.forall_mem_cons] at e); go_simp) ⟨Nw.refl _, rfl⟩
  · intro a w hN hsz hdf old new
    obtain ⟨y31, e31, g31⟩ := new 5 31 rfl
    obtain ⟨y32, e32, g32⟩ := new 6 32 rfl
    exact tab_frame (frame_lit (dst := [250, 251, 252, 253, 254, 31, 32]) (l := [u0, u1, u2, u3, u4, u5, u6, u7, u8, u9, u10, u11, u12, u13, u14, u15, u16, u17, u18, u19, u20, u21, u22, u23, u24, u25, .pointer (some ⟨p, 0, none⟩), u27, u28, u29, u30, u31, u32, u33, u34, u35, u36, u37, u38, u39, u40, u41, u42, u43, u44, u45, u46, u47, u48, u49, u50, u51, u52, u53, u54, u55, u56, u57, u58, u59, u60, u61, u62, u63, u64, u65, u66, u67, u68, u69, u70, u71, u72, u73, u74, u75, u76, u77, u78, u79, u80, u81, u82, u83, u84, u85, u86, u87, u88, u89, u90, u91, u92, u93, u94, u95, u96, u97, u98, u99, u100, u101, u102, u103, u104, u105, u106, u107, u108, u109, u110, u111, u112, u113, u114, u115, u116, u117, u118, u119, u120, u121, u122, u123, u124, u125, u126, u127, u128, u129, u130, u131, u132, u133, u134, u135, u136, u137, u138, u139, u140, u141, u142, u143, u144, u145, u146, u147, u148, u149, u150, u151, u152, u153, u154, u155, u156, u157, u158, u159, u160, u161, u162, u163, u164, u165, u166, u167, u168, u169, u170, u171, u172, u173, u174, u175, u176, u177, u178, u179, u180, u181, u182, u183, u184, u185, u186, u187, u188, u189, u190, u191, u192, u193, u194, u195, u196, u197, u198, u199, u200, u201, u202, u203, u204, u205, u206, u207, u208, u209, u210, u211, u212, u213, u214, u215, u216, u217, u218, u219, u220, u221, u222, u223, u224, u225, u226, u227, u228, u229, u230, u231, u232, u233, u234, u235, u236, u237, u238, u239, u240, u241, u242, u243, u244, u245, u246, u247, u248, u249, u250, u251, u252, u253, u254, u255, u256, u257, u258, u259, u260, u261, u262, u263, u264, u265, u266, u267, u268, u269, u270, u271, u272, u273, u274, u275, u276, u277, u278, u279, u280, u281, u282, u283, u284, u285, u286, u287, u288, u289, u290, u291, u292, u293, u294, u295, u296, u297, u298, u299, u300, u301, u302, u303, u304, u305, u306, u307, u308, u309, u310, u311, u312, u313, u314, u315, u316, u317, u318, u319, u320, u321, u322, u323, u324, u325, u326, u327, u328]) hA hsz hdf old (l' := [u0, u1, u2, u3, u4, u5, u6, u7, u8, u9, u10, u11, u12, u13, u14, u15, u16, u17, u18, u19, u20, u21, u22, u23, u24, u25, .pointer (some ⟨p, 0, none⟩), u27, u28, u29, u30, (a.tmps[31]?.getD undef), (a.tmps[32]?.getD undef), u33, u34, u35, u36, u37, u38, u39, u40, u41, u42, u43, u44, u45, u46, u47, u48, u49, u50, u51, u52, u53, u54, u55, u56, u57, u58, u59, u60, u61, u62, u63, u64, u65, u66, u67, u68, u69, u70, u71, u72, u73, u74, u75, u76, u77, u78, u79, u80, u81, u82, u83, u84, u85, u86, u87, u88, u89, u90, u91, u92, u93, u94, u95, u96, u97, u98, u99, u100, u101, u102, u103, u104, u105, u106, u107, u108, u109, u110, u111, u112, u113, u114, u115, u116, u117, u118, u119, u120, u121, u122, u123, u124, u125, u126, u127, u128, u129, u130, u131, u132, u133, u134, u135, u136, u137, u138, u139, u140, u141, u142, u143, u144, u145, u146, u147, u148, u149, u150, u151, u152, u153, u154, u155, u156, u157, u158, u159, u160, u161, u162, u163, u164, u165, u166, u167, u168, u169, u170, u171, u172, u173, u174, u175, u176, u177, u178, u179, u180, u181, u182, u183, u184, u185, u186, u187, u188, u189, u190, u191, u192, u193, u194, u195, u196, u197, u198, u199, u200, u201, u202, u203, u204, u205, u206, u207, u208, u209, u210, u211, u212, u213, u214, u215, u216, u217, u218, u219, u220, u221, u222, u223, u224, u225, u226, u227, u228, u229, u230, u231, u232, u233, u234, u235, u236, u237, u238, u239, u240, u241, u242, u243, u244, u245, u246, u247, u248, u249, (a.tmps[250]?.getD undef), (a.tmps[251]?.getD undef), (a.tmps[252]?.getD undef), (a.tmps[253]?.getD undef), (a.tmps[254]?.getD undef), u255, u256, u257, u258, u259, u260, u261, u262, u263, u264, u265, u266, u267, u268, u269, u270, u271, u272, u273, u274, u275, u276, u277, u278, u279, u280, u281, u282, u283, u284, u285, u286, u287, u288, u289, u290, u291, u292, u293, u294, u295, u296, u297, u298, u299, u300, u301, u302, u303, u304, u305, u306, u307, u308, u309, u310, u311, u312, u313, u314, u315, u316, u317, u318, u319, u320, u321, u322, u323, u324, u325, u326, u327, u328]) (by kernel_rfl)) (HQ.out _ _ _ _ _ _ _ w hN (by rw [e31]; exact g31) (by rw [e32]; exact g32))

end Go.Proofs.YtjapijndljknnaaGreatDoor.SeglogNumbers

/-
  A log of a hundred pieces, in plain words (seglog's examples).
-/
namespace Go.Proofs.YtjapijndljknnaaGreatDoor
open Go
set_option maxRecDepth 100000
structure Mi (k : Nat) (d : Dsk) (L : Lg) : Prop where
  calm : Calm d
  most : d.most = 1048576
  kin : KInv WB d.files L (zs (20 * k))
  names : ∀ x, x ∈ namesF d.files → x ∈ staysOf L.l
  over : L.over = false
  rk : Rk 64 k L
  n : L.n = 20 * k
  st : (k = 0 ∧ L = newLg 64) ∨ (1 ≤ k ∧ L.l.length = k ∧ (lastP L.l).first = 20 * ((k : Int) - 1) ∧ L.acked = 20 * (k - 1) ∧ 64 ≤ L.bytes)
theorem zs_add (a b : Nat) : zs a ++ zs b = zs (a + b) := by simp [zs]
theorem Mi.new : ∃ d, createD (newDsk 1048576) 64 = (d, 0) ∧ Mi 0 d (newLg 64) := by
  obtain ⟨d, h1, h2⟩ := Ci.new (z := 64) (by omega) (by omega)
  exact ⟨d, h1, h2.calm, h2.most, h2.kin, h2.names, h2.over, h2.rk, rfl, .inl ⟨rfl, rfl⟩⟩
section
variable {k : Nat} {d : Dsk} {L : Lg} {es : List Ev}
theorem add_acked (h0 : (L.add d es).e = 0) : (L.add d es).L.acked = if (lastP L.l).first < L.n ∧ L.size ≤ L.bytes then L.n else L.acked := by
  have hp : ∀ (M : Lg) (x : Dsk), (M.put x es).L.acked = M.acked := fun M x => by
    unfold Lg.put
    split <;> rfl
  have hr : (L.roomed d).e = 0 → (L.roomed d).L.acked = if (lastP L.l).first < L.n ∧ L.size ≤ L.bytes then L.n else L.acked := fun hh => by
    unfold Lg.roomed at hh ⊢
    split
    · rename_i hc
      rw [if_pos hc] at hh
      unfold Lg.another at hh ⊢
      repeat' split at hh
      all_goals first | (simp at hh; done) | skip
      all_goals try contradiction
      rename_i a b c e
      rw [if_neg a, if_neg b, if_neg c, if_neg e]
    · rfl
  unfold Lg.add at h0 ⊢
  repeat' split at h0
  all_goals first | (simp at h0; done) | skip
  all_goals try contradiction
  rename_i a b c e
  rw [if_neg a, if_neg b, if_neg c, if_neg e, hp]
  exact hr (by simpa using e)
theorem Mi.step (h : Mi k d L) (hk : k < 100) : (L.add d (zs 20)).e = 0 ∧ Mi (k + 1) (L.add d (zs 20)).d (L.add d (zs 20)).L := by
  have hn := h.n
  have hl : L.l.length ≤ 99 ∧ L.l.length ≤ k + 1 := by
    rcases h.st with ⟨rfl, rfl⟩ | ⟨h1, h2, -⟩
    · simp [newLg]
    · omega
  have hu := h.kin.used h.names (by rw [zs_len]; omega)
  have hct := h.kin.count h.names
  have hf : (frmB (zs 20)).length = 106 := frm_zs (by omega)
  have hm := h.most
  rw [zs_len] at hu
  obtain ⟨a1, a2, a3, a4, a5, a6⟩ := add_freeL h.calm h.kin h.over (by omega) (by omega) (by omega) (by omega) (es := zs 20) (by rw [zs_len]; omega) (by rw [zs_len]; omega)
  have hkk := h.kin.add (d := d) (es := zs 20) seals_wb (zs_ok 20)
  rw [a1, if_pos rfl, zs_add] at hkk
  have hak := add_acked a1
  have hrk := h.rk.add (d := d) (es := zs 20) (by omega) (by rw [zs_len]; omega)
  obtain ⟨R, hR⟩ : ∃ R, L.add d (zs 20) = R := ⟨_, rfl⟩
  rw [hR] at a1 a2 a3 a4 a5 a6 hkk hak hrk ⊢
  obtain ⟨d', L', e'⟩ := R
  simp only at a1 a2 a3 a4 a5 a6 hkk hak hrk
  subst a1
  obtain ⟨n1, z1, hh⟩ := add_fields hR
  rw [zs_len] at n1
  have hz := h.rk.size
  refine ⟨rfl, a2, a3.trans hm, by rw [show 20 * (k + 1) = 20 * k + 20 by omega]; exact hkk, a6 h.names, a4, hrk, by show L'.n = _; omega, .inr ?_⟩
  rcases h.st with ⟨rfl, rfl⟩ | ⟨h1, h2, h3, h4, h5⟩
  · have hno : ¬ ((lastP (newLg 64).l).first < (newLg 64).n ∧ (newLg 64).size ≤ (newLg 64).bytes) := by simp [newLg, lastP]
    rw [if_neg hno] at hak
    rcases hh with ⟨hc, -, -⟩ | ⟨-, b1, b2⟩
    · exact absurd hc hno
    · refine ⟨by omega, by rw [b1]; rfl, by rw [b1]; rfl, hak, by rw [b2, hf]; omega⟩
  · have hyes : (lastP L.l).first < L.n ∧ L.size ≤ L.bytes := ⟨by rw [h3, hn]; omega, by rw [hz]; omega⟩
    rw [if_pos hyes] at hak
    rcases hh with ⟨-, b1, b2⟩ | ⟨hc, -, -⟩
    · refine ⟨by omega, ?_, ?_, by rw [hak, hn]; omega, by rw [b2, hf]; omega⟩
      · rw [b1]
        have := morePcs_len (L := L) (by intro hx; rw [hx] at h2; simp at h2; omega)
        rw [this, h2]
      · rw [b1, morePcs_last, hn]
        simp only
        omega
    · exact absurd hyes hc
theorem Mi.full (h : Mi 100 d L) : L.add d [Ev.zero] = ⟨d, { L with over := true }, 5⟩ := by
  rcases h.st with ⟨h1, -⟩ | ⟨h1, h2, h3, h4, h5⟩
  · omega
  · have hyes : (lastP L.l).first < L.n ∧ L.size ≤ L.bytes := ⟨by rw [h3, h.n]; decide, by rw [h.rk.size]; omega⟩
    unfold Lg.add Lg.roomed Lg.another
    rw [h.over, if_pos hyes, if_pos (show 100 ≤ L.l.length by omega), if_neg (by simp), if_neg (by simp), if_neg (by simp), if_pos (by simp)]
end
end Go.Proofs.YtjapijndljknnaaGreatDoor

/-
  amanuensislaw05.many: as many pieces as there may be.
-/
namespace Go.Proofs.YtjapijndljknnaaGreatDoor
open Go Go.RowKit Go.Sort
set_option maxRecDepth 100000
set_option maxHeartbeats 1600000
theorem many_ok (w : World) (ht : Tab w) : Calls Tryz.prog 35 #[] w fun e w' => e = .returned (.bool true) ∧ Nw w w' := by
  have HT := Lib.hid ht
  obtain ⟨d0, cr, mi⟩ := Mi.new
  have CR := Lib.hid cr
  have MI := Lib.hid mi
  clear ht cr mi
  go_enter Tryz.func35, Tryz.ntmps35
  go_wp2_with fail
  refine (HasX.new 1048576 w (by omega) (by omega)).mono ?_
  rintro e w1 ⟨b, rfl, H1⟩
  have C := Create_ok H1 HT.out 64
  rw [CR.out] at C
  have C := Lib.hid C
  clear H1
  go_wp2_with fail
  refine C.out.mono ?_
  rintro e w3 ⟨-, ⟨-, p, rfl, L3⟩ | ⟨hx, -⟩⟩
  case inr => exact absurd rfl hx
  have L3 := Lib.hid (L3.less (Y := fun _ => False) fun k hk => hk.elim)
  clear C CR
  go_wp2
  go_loopw [5] (fun i wr => ∃ (k : Nat) (d : Dsk) (L : Lg), k ≤ 100 ∧ i = .int .i64 k ∧ Mi k d L ∧ HasL (fun _ => False) w wr p b d L) (fun i _ => 100 - (intOf i).toNat)
  case atStart => exact ⟨0, d0, _, by omega, rfl, MI.out, L3.out⟩
  case round =>
    obtain ⟨k, d, L, hk, rfl, hmi, hL⟩ := hrel
    have MI := Lib.hid hmi
    have HL := Lib.hid hL
    clear hmi hL L3
    by_cases h1 : k < 100
    case neg =>
      obtain rfl : k = 100 := by omega
      have hfl := MI.out.full
      have hst := MI.out.st
      have hn := MI.out.n
      have FL := Lib.hid hfl
      obtain ⟨l, hl⟩ : ∃ l, L.l = l := ⟨_, rfl⟩
      have HLL := Lib.hid hl
      have hlen : l.length = 100 := by
        rcases hst with ⟨h1, -⟩ | ⟨-, h2, -⟩
        · omega
        · rw [← hl]; exact h2
      have hak : L.acked = 1980 := by
        rcases hst with ⟨h1, -⟩ | ⟨-, -, -, h2, -⟩
        · omega
        · exact h2
      have HLEN := Lib.hid hlen
      have HAK := Lib.hid hak
      have HN : Hid (L.n = 2000) := Lib.hid hn
      clear hfl hst hn hl hlen hak
      have C := Rk.call (HL.out.nw ((Nw.refl _).alloc (.cells (evV Ev.zero).toArray 73 (0, 0)))) MI.out.kin MI.out.rk (by unfold in64; omega) (by omega) (by rw [zs_len]; omega) HT.out (ev_lit _ Ev.zero zero_ok 1 (by omega) (by decide))
      rw [FL.out] at C
      have C := Lib.hid C
      clear MI
      go_wp2_with fail
      refine C.out.mono ?_
      rintro e w5 ⟨rfl, L5, -⟩
      have L5 := Lib.hid L5
      clear C HL
      go_wp2_with fail
      refine (L5.out.pieces HLL.out (by rw [HLEN.out]; omega)).mono ?_
      rintro e w6 ⟨v6, rfl, q1, q2, -⟩
      rw [HLEN.out] at q1
      obtain ⟨pa, pc, rfl, -⟩ := q1.len
      have L6 := Lib.hid (L5.out.nw q2)
      clear q1 q2 L5
      go_wp2_with fail
      refine (L6.out.over (x := true) rfl).mono ?_
      rintro e w7 ⟨rfl, rfl⟩
      go_wp2_with fail
      refine (L6.out.ack (n := 1980) HAK.out).mono ?_
      rintro e w7 ⟨rfl, rfl⟩
      go_wp2_with fail
      refine (L6.out.len (n := 2000) HN.out).mono ?_
      rintro e w7 ⟨rfl, rfl⟩
      go_wp2
      go_ret
      exact ⟨rfl, L6.out.base⟩
    obtain ⟨W5, hmk, nw5, vc5⟩ := makeN wr 20 (by omega) .i64
    have hmk : (Instr.makeSlice 25 (.int .i64 20) (.int .i64 20)).run Tryz.prog wr = .ok (.slice (some ⟨wr.heap.size, 0, none⟩) 20 20) W5 := hmk
    have EV5 := Lib.hid (⟨by rw [zs_len]; exact vc5.src, zs_ok 20⟩ : Evs W5 (.slice (some ⟨wr.heap.size, 0, none⟩) 20 20) (zs 20))
    have C := Rk.call (HL.out.nw nw5) MI.out.kin MI.out.rk (by unfold in64; omega) (by omega) (by rw [zs_len]; omega) HT.out EV5.out
    obtain ⟨s1, s2⟩ := MI.out.step h1
    obtain ⟨R, hR⟩ : ∃ R, L.add d (zs 20) = R := ⟨_, rfl⟩
    rw [hR] at C s1 s2
    obtain ⟨d', L', e'⟩ := R
    simp only at C s1 s2
    subst s1
    have C := Lib.hid C
    have M2 := Lib.hid s2
    clear s2 hR vc5 nw5 EV5 MI
    go_wp2_with fail
    refine C.out.mono ?_
    rintro e w6 ⟨rfl, L6, -⟩
    have L6 := Lib.hid L6
    clear C hmk HL
    go_wp2_with fail
    go_roundw
    case rel => exact ⟨k + 1, d', L', by omega, by go_num, M2.out, L6.out⟩
    case measure => simp [intOf]; omega
end Go.Proofs.YtjapijndljknnaaGreatDoor
