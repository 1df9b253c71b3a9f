/-
  Texts merged by a program of this claim's: UnpC.
-/
import Derived.Test.YtkhcdbafcigeoaaGreatDoorM35
import Derived.Test.YtkhcdbafcigeoaaGreatDoorM18
import Derived.Test.YtkhcdbafcigeoaaGreatDoorM9
import Derived.Test.YtkhcdbafcigeoaaGreatDoorM32
namespace Go.Proofs.YtkhcdbafcigeoaaGreatDoor
open Go Go.RowKit Go.Sort
set_option maxRecDepth 100000
set_option maxHeartbeats 1600000

theorem idx_put0 (w : World) : (Instr.index 224 (.agg #[.func (.func 219) #[] #[], .func (.func 220) #[] #[], .func (.func 221) #[] #[], .func (.func 222) #[] #[], .func (.func 223) #[] #[]]) (.int .i64 0)).run Tryz.prog w = .ok (.func (.func 219) #[] #[]) w := by kernel_rfl
theorem idx_put1 (w : World) : (Instr.index 224 (.agg #[.func (.func 219) #[] #[], .func (.func 220) #[] #[], .func (.func 221) #[] #[], .func (.func 222) #[] #[], .func (.func 223) #[] #[]]) (.int .i64 1)).run Tryz.prog w = .ok (.func (.func 220) #[] #[]) w := by kernel_rfl
theorem idx_put2 (w : World) : (Instr.index 224 (.agg #[.func (.func 219) #[] #[], .func (.func 220) #[] #[], .func (.func 221) #[] #[], .func (.func 222) #[] #[], .func (.func 223) #[] #[]]) (.int .i64 2)).run Tryz.prog w = .ok (.func (.func 221) #[] #[]) w := by kernel_rfl
theorem idx_put3 (w : World) : (Instr.index 224 (.agg #[.func (.func 219) #[] #[], .func (.func 220) #[] #[], .func (.func 221) #[] #[], .func (.func 222) #[] #[], .func (.func 223) #[] #[]]) (.int .i64 3)).run Tryz.prog w = .ok (.func (.func 222) #[] #[]) w := by kernel_rfl
theorem idx_put4 (w : World) : (Instr.index 224 (.agg #[.func (.func 219) #[] #[], .func (.func 220) #[] #[], .func (.func 221) #[] #[], .func (.func 222) #[] #[], .func (.func 223) #[] #[]]) (.int .i64 4)).run Tryz.prog w = .ok (.func (.func 223) #[] #[]) w := by kernel_rfl
theorem zeros_list (n : Nat) : (List.range (n * 5)).map (fun i => (evV Ev.zero).toArray[i % 5]!) = (List.replicate n Ev.zero).flatMap evV := by
  induction n with
  | zero => rfl
  | succ n ih =>
    have e : (n + 1) * 5 = n * 5 + 1 + 1 + 1 + 1 + 1 := by omega
    have h0 : (n * 5) % 5 = 0 := by omega
    have h1 : (n * 5 + 1) % 5 = 1 := by omega
    have h2 : (n * 5 + 1 + 1) % 5 = 2 := by omega
    have h3 : (n * 5 + 1 + 1 + 1) % 5 = 3 := by omega
    have h4 : (n * 5 + 1 + 1 + 1 + 1) % 5 = 4 := by omega
    rw [e, List.range_succ, List.range_succ, List.range_succ, List.range_succ, List.range_succ, List.replicate_succ', List.flatMap_append, ← ih]
    simp only [List.map_append, List.map_cons, List.map_nil, h0, h1, h2, h3, h4, List.append_assoc]
    rfl
theorem makeN (w : World) (n : Nat) (hn : n ≤ 1048576) (k : IntKind) : ∃ W, (Instr.makeSlice 37 (.int k n) (.int k n)).run Tryz.prog w = .ok (.slice (some ⟨w.heap.size, 0, none⟩) n n) W ∧ Nw w W ∧ Vec 5 W (.slice (some ⟨w.heap.size, 0, none⟩) n n) n ((List.replicate n Ev.zero).flatMap evV) := by
  obtain ⟨i0, hi, hz0, hz1, hz2⟩ := info_parts infoEv
  have hr := run_makeSlice (P := Tryz.prog) w 37 104 i0 _ Tryz.underlying37 hi hz0 k k n n (by omega) (by omega) (by rw [hz1]; omega) (by rw [hz2]; omega) (by omega)
  rw [hz1] at hr
  have en : ((n : Nat) : Int).toNat = n := by simp
  rw [en] at hr
  refine ⟨_, hr, (Nw.refl w).alloc _, ?_⟩
  have e : madeCells (Value.agg #[.int .i64 0, .int .u8 0, .int .i64 0, .int .i64 0, .int .i64 0]).cells (n * 5) = ((List.replicate n Ev.zero).flatMap evV).toArray := by
    apply Array.ext'
    rw [List.toList_toArray, ← zeros_list]
    unfold madeCells
    rw [Array.toList_map, Array.toList_range]
    rfl
  rw [e]
  exact vec_lit w 104 5 n _ _ (0, 0) rfl (by rw [evs_len, List.length_replicate]) (by unfold maxLen; omega) (fun j _ h => by simp at h)
theorem cols_len (u : List UInt8) : ∀ (cs : List ((Ev → Int → Ev) × (Int → Bool))) (es : List Ev) (a : Int) {r : List Ev} {x : Int}, colsR u cs es a = some (r, x) → r.length ≤ es.length
  | [], es, a, r, x, h => by simp only [colsR, Option.some.injEq, Prod.mk.injEq] at h; rw [← h.1]; exact Nat.le_refl _
  | (set, ok) :: cs, es, a, r, x, h => by
    unfold colsR at h
    split at h
    · cases h
    · have := cols_len u cs _ _ h
      rw [List.length_zipWith] at this
      omega
theorem unpack_len (b : List UInt8) : (unpackB b).2.1.length ≤ 1048576 := by
  unfold unpackB
  split
  · simp
  unfold unpackIn
  split
  · simp
  split
  · simp
  split
  · simp
  rename_i h1
  split
  · simp
  rename_i es at_ hc
  split
  · simp
  have := cols_len _ _ _ _ hc
  rw [List.length_replicate] at this
  simp only
  omega
def UnpP (w : World) (r : Int × List Ev × Int) (z : Ending) (w' : World) : Prop := ∃ v', z = .returned (.tuple #[.int .i64 r.1, v', .int .i64 r.2.2]) ∧ OwnE w w' v' r.2.1
theorem UnpP.none {w w' : World} {r : Int × List Ev × Int} {x : Int} (h : r = (0, [], x)) (hw : Nw w w') : UnpP w r (.returned (.tuple #[.int .i64 0, .slice none 0 0, .int .i64 x])) w' :=
  ⟨_, by rw [h], by rw [h]; exact Vec.nil, hw, fun g hg => by cases hg⟩
theorem Unpack_ok {w : World} {v : Value} {b : List UInt8} (hv : Bs w v b) (hb : b.length ≤ 16777216) :
    Calls Tryz.prog 172 #[v] w (UnpP w (unpackB b)) := by
  obtain ⟨⟨u, e0⟩, hu⟩ : ∃ y, unsealB b = y := ⟨_, rfl⟩
  have C0 := Lib.hid (Unseal_ok hv (by omega) hu)
  have hr : unpackB b = if e0 ≠ 0 then (0, [], e0) else unpackIn u := by unfold unpackB; rw [hu]
  rw [hr]
  obtain ⟨av, vc, rfl, -, -, -⟩ := hv.elems
  clear hu hr hv
  by_cases c0 : e0 = 0
  case neg =>
    have q0 : (e0 != 0) = true := by simpa using c0
    rw [if_pos c0]
    go_enter Tryz.func172, Tryz.ntmps172
    go_wp2_with fail
    refine C0.out.mono ?_
    rintro z w1 ⟨v1, rfl, b1, n1⟩
    go_wp2
    refine bodyPost_ret (v := .tuple #[.int .i64 0, .slice none 0 0, .int .i64 e0]) (by simp [results, Tryz.results172, go_sem]) rfl (UnpP.none rfl n1)
  subst c0
  rw [if_neg (by simp)]
  obtain ⟨R, hR⟩ : ∃ r, unpackIn u = r := ⟨_, rfl⟩
  rw [hR]
  unfold unpackIn at hR
  have HR := Lib.hid hR
  clear hR
  go_enter Tryz.func172, Tryz.ntmps172
  go_wp2_with fail
  refine C0.out.mono ?_
  rintro z w1 ⟨v1, rfl, b1, n1⟩
  have hR := HR.out
  clear HR
  obtain ⟨ua, uc, rfl, hu1, hu2, -⟩ := b1.elems
  have hu63 : u.length ≤ 9223372036854775807 := by unfold maxLen at hu2; omega
  have HB := Lib.hid b1
  have HN1 := Lib.hid n1
  have k1 := conv_str b1
  have HP := Lib.hid (HP_ok u denseS w1)
  clear b1 n1 C0 hu1 hu2
  by_cases hp : denseS <+: u
  case neg =>
    rw [if_pos hp] at hR
    rw [show decide (denseS <+: u) = false by simpa using hp] at HP
    go_wp2_with fail
    refine HP.out.mono ?_
    rintro z w' ⟨rfl, rfl⟩
    go_wp2
    refine bodyPost_ret (v := .tuple #[.int .i64 0, .slice none 0 0, .int .i64 10]) (by simp [results, Tryz.results172, go_sem]) rfl (UnpP.none hR.symm HN1.out)
  rw [if_neg (by simpa using hp)] at hR
  rw [show decide (denseS <+: u) = true by simpa using hp] at HP
  go_wp2_with fail
  refine HP.out.mono ?_
  rintro z w' ⟨rfl, rfl⟩
  obtain ⟨⟨n1, x1, e1⟩, hg1⟩ : ∃ y, getU u 4 = y := ⟨_, rfl⟩
  have C1 := Lib.hid (GetUint_ok HB.out 4 ⟨by omega, by omega⟩ hg1)
  have hf1 := getU_fine (b := u) (at_ := 4)
  rw [hg1] at hf1 hR
  simp only at hf1 hR
  clear hg1
  by_cases c1 : e1 = 0
  case neg =>
    have q1 : (e1 != 0) = true := by simpa using c1
    rw [if_pos (.inl c1)] at hR
    go_wp2_with fail
    refine C1.out.mono ?_
    rintro z w' ⟨rfl, rfl⟩
    go_wp2
    refine bodyPost_ret (v := .tuple #[.int .i64 0, .slice none 0 0, .int .i64 10]) (by simp [results, Tryz.results172, go_sem]) rfl (UnpP.none hR.symm HN1.out)
  subst c1
  obtain ⟨f1, f2, f3, f4⟩ := hf1 rfl
  by_cases c2 : 4611686018427387904 < n1
  case pos =>
    have q1 : decide ((4611686018427387904 : Int) < (n1 : Int)) = true := by simp; omega
    rw [if_pos (.inr c2)] at hR
    go_wp2_with fail
    refine C1.out.mono ?_
    rintro z w' ⟨rfl, rfl⟩
    go_wp2
    refine bodyPost_ret (v := .tuple #[.int .i64 0, .slice none 0 0, .int .i64 10]) (by simp [results, Tryz.results172, go_sem]) rfl (UnpP.none hR.symm HN1.out)
  have q1 : decide ((4611686018427387904 : Int) < (n1 : Int)) = false := by simp; omega
  rw [if_neg (by omega)] at hR
  obtain ⟨⟨n2, x2, e2⟩, hg2⟩ : ∃ y, getU u x1 = y := ⟨_, rfl⟩
  have C2 := Lib.hid (GetUint_ok HB.out x1 ⟨by omega, by omega⟩ hg2)
  have hf2 := getU_fine (b := u) (at_ := x1)
  rw [hg2] at hf2 hR
  simp only at hf2 hR
  clear hg2 hf1
  by_cases c3 : e2 = 0
  case neg =>
    have q2 : (e2 != 0) = true := by simpa using c3
    rw [if_pos (.inl c3)] at hR
    go_wp2_with fail
    refine C1.out.mono ?_
    rintro z w' ⟨rfl, rfl⟩
    go_wp2_with fail
    refine C2.out.mono ?_
    rintro z w' ⟨rfl, rfl⟩
    go_wp2
    refine bodyPost_ret (v := .tuple #[.int .i64 0, .slice none 0 0, .int .i64 10]) (by simp [results, Tryz.results172, go_sem]) rfl (UnpP.none hR.symm HN1.out)
  subst c3
  obtain ⟨g1, g2, g3, g4⟩ := hf2 rfl
  by_cases c4 : n2 < 1
  case pos =>
    rw [if_pos (.inr (.inl c4))] at hR
    go_wp2_with fail
    refine C1.out.mono ?_
    rintro z w' ⟨rfl, rfl⟩
    go_wp2_with fail
    refine C2.out.mono ?_
    rintro z w' ⟨rfl, rfl⟩
    go_wp2
    refine bodyPost_ret (v := .tuple #[.int .i64 0, .slice none 0 0, .int .i64 10]) (by simp [results, Tryz.results172, go_sem]) rfl (UnpP.none hR.symm HN1.out)
  by_cases c5 : 1048576 < n2
  case pos =>
    have q2 : decide ((1048576 : Int) < (n2 : Int)) = true := by simp; omega
    rw [if_pos (.inr (.inr c5))] at hR
    go_wp2_with fail
    refine C1.out.mono ?_
    rintro z w' ⟨rfl, rfl⟩
    go_wp2_with fail
    refine C2.out.mono ?_
    rintro z w' ⟨rfl, rfl⟩
    go_wp2
    refine bodyPost_ret (v := .tuple #[.int .i64 0, .slice none 0 0, .int .i64 10]) (by simp [results, Tryz.results172, go_sem]) rfl (UnpP.none hR.symm HN1.out)
  have q2 : decide ((1048576 : Int) < (n2 : Int)) = false := by simp; omega
  rw [if_neg (by omega)] at hR
  have HR := Lib.hid hR
  clear hR hf2
  obtain ⟨W2, hmk, nw2, vc2⟩ := makeN w1 n2 (by omega) .u64
  have NW2 := Lib.hid nw2
  have VC2 := Lib.hid vc2
  clear nw2 vc2
  go_wp2_with fail
  refine C1.out.mono ?_
  rintro z w' ⟨rfl, rfl⟩
  go_wp2_with fail
  refine C2.out.mono ?_
  rintro z w' ⟨rfl, rfl⟩
  clear C1 C2 k1 HP
  go_wp2_with fail
  refine columns_ok.mono ?_
  rintro z w3 ⟨rfl, n3⟩
  have N3 := Lib.hid n3
  clear n3
  unfold putFs pickFs
  obtain ⟨Rc, hRc⟩ : ∃ r, colsR u cols (List.replicate n2 Ev.zero) x2 = r := ⟨_, rfl⟩
  rw [hRc] at HR
  have HRC := Lib.hid hRc
  clear hRc
  go_wp2
  go_loopw [10, 65] (fun av cv wr => ∃ (c : Nat) (at1 : Int) (es1 : List Ev), c ≤ 5 ∧ av = .int .i64 at1 ∧ cv = .int .i64 c ∧ in64 at1 ∧ es1.length = n2 ∧ colsR u (cols.drop c) es1 at1 = Rc ∧
    Vec 5 wr (.slice (some ⟨w1.heap.size, 0, none⟩) n2 n2) n2 (es1.flatMap evV) ∧ Nw w1 wr) (fun _ cv _ => 5 - (intOf cv).toNat)
  case atStart =>
    exact ⟨0, x2, _, by omega, rfl, rfl, ⟨by omega, by omega⟩, by simp, HRC.out, VC2.out.nw (N3.out.trans (((Nw.refl w3).alloc _).alloc _)), NW2.out.trans (N3.out.trans (((Nw.refl w3).alloc _).alloc _))⟩
  case round =>
    obtain ⟨c, at1, es1, hc, rfl, rfl, hat, hesl, hr1, hv1, hw1⟩ := hrel
    clear NW2 VC2 N3 HRC hmk
    have HRr := Lib.hid hr1
    have HVr := Lib.hid hv1
    have HWr := Lib.hid hw1
    have hgge := Nat.le_refl w1.heap.size
    clear hr1 hv1 hw1
    by_cases hlt : c < 5
    case pos =>
      have h5 : c = 0 ∨ c = 1 ∨ c = 2 ∨ c = 3 ∨ c = 4 := by omega
      clear hc hlt
      rcases h5 with rfl | rfl | rfl | rfl | rfl
      · have hix := idx_put0 wr
        have C := column_ok HB.out HWr.out hat (o := 0) hesl (by omega) hgge HVr.out putOk0
        have hun := HRr.out
        simp only [cols, List.drop] at hun
        unfold colsR at hun
        rw [hesl] at hun
        obtain ⟨R1, hR1⟩ : ∃ r, colR u okAny n2 true 0 0 at1 [] = r := ⟨_, rfl⟩
        rw [hR1] at hun C
        have C := Lib.hid C
        have HUN := Lib.hid hun
        clear hun hR1
        go_wp2_with fail
        refine C.out.mono ?_
        rintro z w5 ⟨n5, ⟨rfl, rfl⟩ | ⟨vs, x5, rfl, rfl, v5, vl, hx5⟩⟩
        · have hR := HR.out
          have hun := HUN.out
          simp only at hun
          rw [← hun] at hR
          simp only at hR
          go_wp2
          refine bodyPost_ret (v := .tuple #[.int .i64 0, .slice none 0 0, .int .i64 10]) (by simp [results, Tryz.results172, go_sem]) rfl (UnpP.none hR.symm (HN1.out.trans n5))
        · have hun := HUN.out
          simp only at hun
          have V5 := Lib.hid v5
          have N5 := Lib.hid n5
          clear v5 n5 HUN C
          go_wp2
          go_roundw
          case rel => exact ⟨1, x5, List.zipWith setT es1 vs, by omega, rfl, rfl, hx5, by rw [List.length_zipWith]; omega, hun, V5.out, N5.out⟩
          case measure => simp [intOf]
      · have hix := idx_put1 wr
        have C := column_ok HB.out HWr.out hat (o := 0) hesl (by omega) hgge HVr.out putOk1
        have hun := HRr.out
        simp only [cols, List.drop] at hun
        unfold colsR at hun
        rw [hesl] at hun
        obtain ⟨R1, hR1⟩ : ∃ r, colR u okOp n2 true 0 0 at1 [] = r := ⟨_, rfl⟩
        rw [hR1] at hun C
        have C := Lib.hid C
        have HUN := Lib.hid hun
        clear hun hR1
        go_wp2_with fail
        refine C.out.mono ?_
        rintro z w5 ⟨n5, ⟨rfl, rfl⟩ | ⟨vs, x5, rfl, rfl, v5, vl, hx5⟩⟩
        · have hR := HR.out
          have hun := HUN.out
          simp only at hun
          rw [← hun] at hR
          simp only at hR
          go_wp2
          refine bodyPost_ret (v := .tuple #[.int .i64 0, .slice none 0 0, .int .i64 10]) (by simp [results, Tryz.results172, go_sem]) rfl (UnpP.none hR.symm (HN1.out.trans n5))
        · have hun := HUN.out
          simp only at hun
          have V5 := Lib.hid v5
          have N5 := Lib.hid n5
          clear v5 n5 HUN C
          go_wp2
          go_roundw
          case rel => exact ⟨2, x5, List.zipWith setOp es1 vs, by omega, rfl, rfl, hx5, by rw [List.length_zipWith]; omega, hun, V5.out, N5.out⟩
          case measure => simp [intOf]
      · have hix := idx_put2 wr
        have C := column_ok HB.out HWr.out hat (o := 0) hesl (by omega) hgge HVr.out putOk2
        have hun := HRr.out
        simp only [cols, List.drop] at hun
        unfold colsR at hun
        rw [hesl] at hun
        obtain ⟨R1, hR1⟩ : ∃ r, colR u okAny n2 true 0 0 at1 [] = r := ⟨_, rfl⟩
        rw [hR1] at hun C
        have C := Lib.hid C
        have HUN := Lib.hid hun
        clear hun hR1
        go_wp2_with fail
        refine C.out.mono ?_
        rintro z w5 ⟨n5, ⟨rfl, rfl⟩ | ⟨vs, x5, rfl, rfl, v5, vl, hx5⟩⟩
        · have hR := HR.out
          have hun := HUN.out
          simp only at hun
          rw [← hun] at hR
          simp only at hR
          go_wp2
          refine bodyPost_ret (v := .tuple #[.int .i64 0, .slice none 0 0, .int .i64 10]) (by simp [results, Tryz.results172, go_sem]) rfl (UnpP.none hR.symm (HN1.out.trans n5))
        · have hun := HUN.out
          simp only at hun
          have V5 := Lib.hid v5
          have N5 := Lib.hid n5
          clear v5 n5 HUN C
          go_wp2
          go_roundw
          case rel => exact ⟨3, x5, List.zipWith setObj es1 vs, by omega, rfl, rfl, hx5, by rw [List.length_zipWith]; omega, hun, V5.out, N5.out⟩
          case measure => simp [intOf]
      · have hix := idx_put3 wr
        have C := column_ok HB.out HWr.out hat (o := 0) hesl (by omega) hgge HVr.out putOk3
        have hun := HRr.out
        simp only [cols, List.drop] at hun
        unfold colsR at hun
        rw [hesl] at hun
        obtain ⟨R1, hR1⟩ : ∃ r, colR u okAny n2 true 0 0 at1 [] = r := ⟨_, rfl⟩
        rw [hR1] at hun C
        have C := Lib.hid C
        have HUN := Lib.hid hun
        clear hun hR1
        go_wp2_with fail
        refine C.out.mono ?_
        rintro z w5 ⟨n5, ⟨rfl, rfl⟩ | ⟨vs, x5, rfl, rfl, v5, vl, hx5⟩⟩
        · have hR := HR.out
          have hun := HUN.out
          simp only at hun
          rw [← hun] at hR
          simp only at hR
          go_wp2
          refine bodyPost_ret (v := .tuple #[.int .i64 0, .slice none 0 0, .int .i64 10]) (by simp [results, Tryz.results172, go_sem]) rfl (UnpP.none hR.symm (HN1.out.trans n5))
        · have hun := HUN.out
          simp only at hun
          have V5 := Lib.hid v5
          have N5 := Lib.hid n5
          clear v5 n5 HUN C
          go_wp2
          go_roundw
          case rel => exact ⟨4, x5, List.zipWith setA es1 vs, by omega, rfl, rfl, hx5, by rw [List.length_zipWith]; omega, hun, V5.out, N5.out⟩
          case measure => simp [intOf]
      · have hix := idx_put4 wr
        have C := column_ok HB.out HWr.out hat (o := 0) hesl (by omega) hgge HVr.out putOk4
        have hun := HRr.out
        simp only [cols, List.drop] at hun
        unfold colsR at hun
        rw [hesl] at hun
        obtain ⟨R1, hR1⟩ : ∃ r, colR u okAny n2 true 0 0 at1 [] = r := ⟨_, rfl⟩
        rw [hR1] at hun C
        have C := Lib.hid C
        have HUN := Lib.hid hun
        clear hun hR1
        go_wp2_with fail
        refine C.out.mono ?_
        rintro z w5 ⟨n5, ⟨rfl, rfl⟩ | ⟨vs, x5, rfl, rfl, v5, vl, hx5⟩⟩
        · have hR := HR.out
          have hun := HUN.out
          simp only at hun
          rw [← hun] at hR
          simp only at hR
          go_wp2
          refine bodyPost_ret (v := .tuple #[.int .i64 0, .slice none 0 0, .int .i64 10]) (by simp [results, Tryz.results172, go_sem]) rfl (UnpP.none hR.symm (HN1.out.trans n5))
        · have hun := HUN.out
          simp only at hun
          have V5 := Lib.hid v5
          have N5 := Lib.hid n5
          clear v5 n5 HUN C
          go_wp2
          go_roundw
          case rel => exact ⟨5, x5, List.zipWith setB es1 vs, by omega, rfl, rfl, hx5, by rw [List.length_zipWith]; omega, hun, V5.out, N5.out⟩
          case measure => simp [intOf]
    obtain rfl : c = 5 := by omega
    have hr := HRr.out
    simp only [cols, List.drop] at hr
    unfold colsR at hr
    have hR := HR.out
    rw [← hr] at hR
    simp only at hR
    clear HR hr HRr
    by_cases c6 : at1 < u.length
    case pos =>
      have q6 : decide (at1 < (u.length : Int)) = true := by simpa using c6
      rw [if_pos c6] at hR
      go_wp2
      refine bodyPost_ret (v := .tuple #[.int .i64 0, .slice none 0 0, .int .i64 10]) (by simp [results, Tryz.results172, go_sem]) rfl (UnpP.none hR.symm (HN1.out.trans HWr.out))
    have q6 : decide (at1 < (u.length : Int)) = false := by simpa using c6
    rw [if_neg c6] at hR
    have hwf : IntKind.i64.wrap (n1 : Int) = (n1 : Int) := IntWalk.i64_in _ (by omega)
    go_wp2
    refine bodyPost_ret (v := .tuple #[.int .i64 n1, .slice (some ⟨w1.heap.size, 0, none⟩) n2 n2, .int .i64 0]) (by simp [results, Tryz.results172, go_sem]) rfl ?_
    rw [← hR]
    exact ⟨_, rfl, by simp only; rw [hesl]; exact HVr.out, HN1.out.trans HWr.out, fun g hg => by cases hg; exact HN1.out.size⟩
theorem den_unpack : DenOk unpackB := ⟨fun W v b hv hb => (Unpack_ok hv hb).mono fun _ _ h => h, fun b => by have := unpack_len b; omega⟩
end Go.Proofs.YtkhcdbafcigeoaaGreatDoor
