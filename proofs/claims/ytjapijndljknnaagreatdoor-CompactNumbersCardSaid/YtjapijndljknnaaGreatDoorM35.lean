/-
  Texts merged by a program of this claim's: PackA, EvCut, CompB.
-/
import Derived.Test.YtjapijndljknnaaGreatDoorM33
import Derived.Test.YtjapijndljknnaaGreatDoorM34
import Derived.Test.YtjapijndljknnaaGreatDoorM11
import Derived.Test.YtjapijndljknnaaGreatDoorM12
import Derived.Test.YtjapijndljknnaaGreatDoorM30
import Derived.Test.YtjapijndljknnaaGreatDoorM26
/-
  Package segment, walked: Pack. Printed by wip/gen_packa.py.
-/
namespace Go.Proofs.YtjapijndljknnaaGreatDoor
open Go Go.RowKit Go.Sort
set_option maxRecDepth 100000
set_option maxHeartbeats 1600000

/-- What a closure 'pick' does. -/
structure PickCol (f : FuncId) (fk : Ev → Int) : Prop where
  en : Enters Tryz.prog f
  i64 : ∀ e : Ev, e.Ok → in64 (fk e)
  call : ∀ (w : World) (e : Ev), Calls Tryz.prog f #[.agg #[.int .i64 e.thread, .int .u8 e.op.toNat, .int .i64 e.obj, .int .i64 e.a, .int .i64 e.b]] w fun z w' => z = .returned (.int .i64 (fk e)) ∧ Nw w w'
theorem pickOk0 : PickCol 177 Ev.thread :=
  ⟨enters_of Tryz.func177 (by kernel_rfl) (by kernel_rfl), fun _ h => h.thread, fun w e => by
    obtain ⟨t, op, ob, a, b⟩ := e
    simp only
    go_enter Tryz.func177, Tryz.ntmps177
    go_wp2
    go_ret
    exact ⟨rfl, (Nw.refl w).alloc _⟩⟩
theorem pickOk1 : PickCol 178 (fun e => (e.op.toNat : Int)) :=
  ⟨enters_of Tryz.func178 (by kernel_rfl) (by kernel_rfl), fun e _ => ⟨by omega, by have := e.op.toNat_lt; omega⟩, fun w e => by
    have hw : IntKind.i64.wrap (e.op.toNat : Int) = (e.op.toNat : Int) := IntWalk.i64_in _ (by have := e.op.toNat_lt; omega)
    obtain ⟨t, op, ob, a, b⟩ := e
    simp only
    go_enter Tryz.func178, Tryz.ntmps178
    go_wp2
    go_ret
    exact ⟨rfl, (Nw.refl w).alloc _⟩⟩
theorem pickOk2 : PickCol 179 Ev.obj :=
  ⟨enters_of Tryz.func179 (by kernel_rfl) (by kernel_rfl), fun _ h => h.obj, fun w e => by
    obtain ⟨t, op, ob, a, b⟩ := e
    simp only
    go_enter Tryz.func179, Tryz.ntmps179
    go_wp2
    go_ret
    exact ⟨rfl, (Nw.refl w).alloc _⟩⟩
theorem pickOk3 : PickCol 180 Ev.a :=
  ⟨enters_of Tryz.func180 (by kernel_rfl) (by kernel_rfl), fun _ h => h.a, fun w e => by
    obtain ⟨t, op, ob, a, b⟩ := e
    simp only
    go_enter Tryz.func180, Tryz.ntmps180
    go_wp2
    go_ret
    exact ⟨rfl, (Nw.refl w).alloc _⟩⟩
theorem pickOk4 : PickCol 181 Ev.b :=
  ⟨enters_of Tryz.func181 (by kernel_rfl) (by kernel_rfl), fun _ h => h.b, fun w e => by
    obtain ⟨t, op, ob, a, b⟩ := e
    simp only
    go_enter Tryz.func181, Tryz.ntmps181
    go_wp2
    go_ret
    exact ⟨rfl, (Nw.refl w).alloc _⟩⟩
theorem idx_pick0 (w : World) : (Instr.index 187 (.agg #[.func (.func 177) #[] #[], .func (.func 178) #[] #[], .func (.func 179) #[] #[], .func (.func 180) #[] #[], .func (.func 181) #[] #[]]) (.int .i64 0)).run Tryz.prog w = .ok (.func (.func 177) #[] #[]) w := by kernel_rfl
theorem idx_pick1 (w : World) : (Instr.index 187 (.agg #[.func (.func 177) #[] #[], .func (.func 178) #[] #[], .func (.func 179) #[] #[], .func (.func 180) #[] #[], .func (.func 181) #[] #[]]) (.int .i64 1)).run Tryz.prog w = .ok (.func (.func 178) #[] #[]) w := by kernel_rfl
theorem idx_pick2 (w : World) : (Instr.index 187 (.agg #[.func (.func 177) #[] #[], .func (.func 178) #[] #[], .func (.func 179) #[] #[], .func (.func 180) #[] #[], .func (.func 181) #[] #[]]) (.int .i64 2)).run Tryz.prog w = .ok (.func (.func 179) #[] #[]) w := by kernel_rfl
theorem idx_pick3 (w : World) : (Instr.index 187 (.agg #[.func (.func 177) #[] #[], .func (.func 178) #[] #[], .func (.func 179) #[] #[], .func (.func 180) #[] #[], .func (.func 181) #[] #[]]) (.int .i64 3)).run Tryz.prog w = .ok (.func (.func 180) #[] #[]) w := by kernel_rfl
theorem idx_pick4 (w : World) : (Instr.index 187 (.agg #[.func (.func 177) #[] #[], .func (.func 178) #[] #[], .func (.func 179) #[] #[], .func (.func 180) #[] #[], .func (.func 181) #[] #[]]) (.int .i64 4)).run Tryz.prog w = .ok (.func (.func 181) #[] #[]) w := by kernel_rfl
theorem idx_pick (k : Nat) (h : k < 5) : ∃ f fk, PickCol f fk ∧ picks.drop k = fk :: picks.drop (k + 1) ∧ ∀ w, (Instr.index 187 (.agg #[.func (.func 177) #[] #[], .func (.func 178) #[] #[], .func (.func 179) #[] #[], .func (.func 180) #[] #[], .func (.func 181) #[] #[]]) (.int .i64 k)).run Tryz.prog w = .ok (.func (.func f) #[] #[]) w := by
  have h5 : k = 0 ∨ k = 1 ∨ k = 2 ∨ k = 3 ∨ k = 4 := by omega
  rcases h5 with rfl | rfl | rfl | rfl | rfl
  · exact ⟨_, _, pickOk0, rfl, idx_pick0⟩
  · exact ⟨_, _, pickOk1, rfl, idx_pick1⟩
  · exact ⟨_, _, pickOk2, rfl, idx_pick2⟩
  · exact ⟨_, _, pickOk3, rfl, idx_pick3⟩
  · exact ⟨_, _, pickOk4, rfl, idx_pick4⟩
theorem Pack_ok {w : World} {v : Value} {l : List Ev} (hv : Evs w v l) (h1 : 1 ≤ l.length) (h2 : l.length ≤ 100000) :
    Calls Tryz.prog 132 #[.int .i64 0, v] w fun z w' => ∃ v', z = .returned (.tuple #[v', .int .i64 0]) ∧ Bs w' v' (packB 0 l) ∧ Nw w w' ∧ ∀ g, v'.ownBlock = some g → w.heap.size ≤ g := by
  obtain ⟨av, vc, rfl, -, hel⟩ := hv.elem
  have HE := Lib.hid hel
  have HOK := Lib.hid hv.ok
  obtain ⟨T, hT⟩ : ∃ T, packIn 0 l = T := ⟨_, rfl⟩
  have hTl : T.length ≤ 10000100 := by rw [← hT]; exact packIn_len h2 (by omega)
  have hPB : packB 0 l = sealB sumB T := by unfold packB; rw [hT]
  rw [hPB]
  have hT0 : denseS ++ (uintB 0 ++ (uintB l.length ++ picks.flatMap fun f => colB (l.map f))) = T := hT
  obtain ⟨n, hn⟩ : ∃ n, l.length = n := ⟨_, rfl⟩
  rw [hn] at h1 h2 hT0 ⊢
  have HN := Lib.hid hn
  have HT := Lib.hid hT0
  have HTL := Lib.hid hTl
  clear hn hT hTl hT0 hPB hel hv
  have e0 : ((n : Int) == 0) = false := by simp; omega
  have e1 : decide ((1048576 : Int) < (n : Int)) = false := by simp; omega
  have kc := fun (w : World) (C : Array Value) (n c : Nat) => Go.Lib.run_convert_bytes_const (P := Tryz.prog) w 35 5 C n c Tryz.underlying35 Tryz.underlying5
  have hm : ((n : Nat) : Int) % 18446744073709551616 = n := by omega
  have V0 := Lib.hid (vec_lit w 5 1 4 (denseS.map u8) _ (4, 5) rfl rfl (by decide) (fun j hj => by omega))
  go_enter Tryz.func132, Tryz.ntmps132
  go_wp2_with fail
  refine (Uint_ok (l := denseS) V0.out 0 (by omega) (by decide)).mono ?_
  rintro e w1 ⟨v1, rfl, q1, q2, q3⟩
  have O1 : Hid (Nw w w1 ∧ ∀ g, v1.ownBlock = some g → w.heap.size ≤ g) := Lib.hid ⟨((Nw.refl w).alloc _).trans' q2 (fun k hk hc => by
    have e : w.heap.size = k := by simpa [Value.ownBlock] using hc
    omega), fun g hg => by
      rcases q3 with h | h
      · rw [h] at hg
        have e : w.heap.size = g := by simpa [Value.ownBlock] using hg
        omega
      · have := h g hg
        simp only [World.size_alloc] at this
        omega⟩
  have L1 : (denseS ++ uintB 0).length ≤ 14 := by
    have := uintB_len 0 10 (by omega) (by decide)
    have e : denseS.length = 4 := rfl
    rw [List.length_append]; omega
  obtain ⟨B1, hB1⟩ : ∃ B, denseS ++ uintB 0 = B := ⟨_, rfl⟩
  rw [hB1] at q1 L1
  have HB1 := Lib.hid hB1
  obtain ⟨xa, xc, rfl, -⟩ := q1.len
  have Q1 := Lib.hid q1
  clear q1 q2 q3 V0 hB1 kc
  go_wp2_with fail
  refine (Uint_ok Q1.out n (by omega) (by omega)).mono ?_
  rintro e w2 ⟨v2, rfl, q1, q2, q3⟩
  have O2 : Hid (Nw w w2 ∧ ∀ g, v2.ownBlock = some g → w.heap.size ≤ g) := Lib.hid ⟨O1.out.1.trans' q2 (fun k hk hc => by have := O1.out.2 k hc; omega), fun g hg => by
    rcases q3 with h | h
    · rw [h] at hg; exact O1.out.2 g hg
    · exact Nat.le_trans O1.out.1.size (h g hg)⟩
  obtain ⟨B2, hB2⟩ : ∃ B, B1 ++ uintB n = B := ⟨_, rfl⟩
  rw [hB2] at q1
  have HB2 : Hid (B2 ++ (picks.flatMap fun f => colB (l.map f)) = T) := Lib.hid (by rw [← hB2, ← HB1.out, ← HT.out]; simp only [List.append_assoc])
  obtain ⟨ya, yc, rfl, -⟩ := q1.len
  have Q2 := Lib.hid q1
  clear q1 q2 q3 Q1 O1 hB2 L1 hm HB1 HT
  go_wp2_with fail
  refine columns_ok.mono ?_
  rintro z w3 ⟨rfl, n3⟩
  have N3 := Lib.hid n3
  clear n3
  unfold putFs pickFs
  go_wp2
  go_loopw [6, 45] (fun bv iv wr => ∃ (k : Nat) (B : List UInt8), k ≤ 5 ∧ iv = .int .i64 k ∧ Vec 1 wr bv B.length (B.map u8) ∧ Nw w wr ∧ (∀ g, bv.ownBlock = some g → w.heap.size ≤ g) ∧ B ++ ((picks.drop k).flatMap fun f => colB (l.map f)) = T) (fun _ iv _ => 5 - (intOf iv).toNat)
  case atStart => exact ⟨0, B2, by omega, rfl, Q2.out.nw (N3.out.trans (((Nw.refl w3).alloc _).alloc _)), O2.out.1.trans (N3.out.trans (((Nw.refl w3).alloc _).alloc _)), O2.out.2, HB2.out⟩
  case round =>
    obtain ⟨k, B, hk, rfl, hb, hw, hf, hT⟩ := hrel
    clear Q2 O2 HB2 N3
    have hBl : B.length ≤ 10000100 := by have := HTL.out; rw [← hT, List.length_append] at this; omega
    by_cases hlt : k < 5
    case neg =>
      obtain rfl : k = 5 := by omega
      obtain ⟨za, zc, rfl, -⟩ := hb.len
      have hT' : B = T := by simpa [picks] using hT
      subst hT'
      have HBv := Lib.hid hb
      have HW := Lib.hid hw
      clear hb hT
      go_wp2_with fail
      refine (Seal_ok HBv.out.rd (by omega)).mono ?_
      rintro e w4 ⟨v4, rfl, r1, r2, r3⟩
      obtain ⟨ua, uc, rfl, -⟩ := r1.len
      have R1 := Lib.hid (And.intro r1 (And.intro r2 r3))
      clear r1 r2 r3
      go_wp2
      refine bodyPost_ret (v := .tuple #[.slice ua (sealB sumB B).length uc, .int .i64 0]) (by simp [results, Tryz.results132, go_sem]) rfl ⟨_, rfl, R1.out.1.rd, HW.out.trans R1.out.2.1, fun g hg => Nat.le_trans HW.out.size (R1.out.2.2 g hg)⟩
    obtain ⟨f, fk, hp, hdr, hidx⟩ := idx_pick k hlt
    have hix := hidx wr
    have en := hp.en
    unfold Enters at en
    have HP := Lib.hid hp
    rw [hdr, List.flatMap_cons] at hT
    obtain ⟨V, hV⟩ : ∃ V, l.map fk = V := ⟨_, rfl⟩
    have hVl : V.length = n := by rw [← hV, List.length_map, HN.out]
    have hVg : ∀ j (h : j < l.length) (h2 : j < V.length), V[j] = fk l[j] := fun j h h2 => by subst hV; simp
    have HVG := Lib.hid hVg
    obtain ⟨Rest, hRest⟩ : ∃ r, ((picks.drop (k + 1)).flatMap fun f => colB (l.map f)) = r := ⟨_, rfl⟩
    rw [hRest, hV] at hT
    have HRest := Lib.hid hRest
    have HBv := Lib.hid hb
    have HW := Lib.hid hw
    have HF := Lib.hid hf
    have HT := Lib.hid hT
    clear hb hw hf hT hdr hV hVg hRest hp hidx
    obtain ⟨ba, bc, rfl, -⟩ := HBv.out.len
    have hk5 : decide ((k : Int) < 5) = true := by simp; omega
    go_wp2
    go_loopw [6, 11, 12] (fun bv av iv wq => ∃ (i fu : Nat) (a : Int) (B3 : List UInt8), i ≤ n ∧ n - i ≤ fu ∧ iv = .int .i64 i ∧ av = .int .i64 a ∧ Vec 1 wq bv B3.length (B3.map u8) ∧ Nw w wq ∧ (∀ g, bv.ownBlock = some g → w.heap.size ≤ g) ∧ B3 ++ ((runsOf fu (deltas a (V.drop i))).flatMap runB ++ Rest) = T) (fun _ _ iv _ => n - (intOf iv).toNat)
    case atStart => exact ⟨0, V.length, 0, B, by omega, by omega, rfl, rfl, HBv.out, HW.out, HF.out, HT.out⟩
    case round =>
      obtain ⟨i, fu, a, B3, hi, hfu, rfl, rfl, hb, hw, hf, hT⟩ := hrel
      clear HBv HW HF HT hBl
      have hBl : B3.length ≤ 10000100 := by have := HTL.out; rw [← hT, List.length_append] at this; omega
      have HBv := Lib.hid hb
      have HW := Lib.hid hw
      have HF := Lib.hid hf
      obtain ⟨ba, bc, rfl, -⟩ := hb.len
      clear hb hw hf
      by_cases hin : i < n
      case neg =>
        obtain rfl : i = n := by omega
        have hT' : B3 ++ Rest = T := by
          rw [List.drop_of_length_le (by omega), runs_nil] at hT
          simpa using hT
        clear hT
        go_wp2
        go_roundw
        case rel => exact ⟨k + 1, B3, by omega, by go_num, HBv.out, HW.out, HF.out, by rw [HRest.out]; exact hT'⟩
        case measure => simp [intOf]; omega
      obtain ⟨fu', rfl⟩ : ∃ f', fu = f' + 1 := ⟨fu - 1, by omega⟩
      obtain ⟨x, H, g1, g2, g3, g4, g5, g6, g7⟩ := run_at a (V.drop i) (by intro h; have := congrArg List.length h; simp at this; omega) fu'
      rw [g4, List.flatMap_cons, List.drop_drop] at hT
      rw [List.length_drop] at g2
      have HT2 := Lib.hid hT
      have hil : i < l.length := by rw [HN.out]; exact hin
      have hx : w64 (fk l[i] - a) = x := by
        have := g5 (by rw [List.length_drop]; omega)
        rw [List.getElem_drop] at this
        simp only [Nat.add_zero] at this
        rw [HVG.out i hil (by omega)] at this
        exact this
      have h6 : ∀ r (h : r < H), w64 (fk (l[i + r]'(by rw [HN.out]; omega)) - lastD a ((V.drop i).take r)) = x := fun r h => by
        obtain ⟨hr, he⟩ := g6 r h
        rw [List.getElem_drop, HVG.out (i + r) (by rw [HN.out]; omega) (by omega)] at he
        exact he
      have h7 : ∀ (h : i + H < n), w64 (fk (l[i + H]'(by rw [HN.out]; exact h)) - lastD a ((V.drop i).take H)) ≠ x := fun h => by
        have he := g7 (by rw [List.length_drop]; omega)
        rw [List.getElem_drop, HVG.out (i + H) (by rw [HN.out]; omega) (by omega)] at he
        exact he
      have h8 : ∀ r (h : r < H), lastD a ((V.drop i).take (r + 1)) = fk (l[i + r]'(by rw [HN.out]; omega)) := fun r h => by
        rw [lastD_take _ _ _ (by rw [List.length_drop]; omega), List.getElem_drop, HVG.out (i + r) (by rw [HN.out]; omega) (by omega)]
      have H6 := Lib.hid h6
      have H7 := Lib.hid h7
      have H8 := Lib.hid h8
      clear g4 g5 g6 g7 hT h6 h7 h8
      obtain ⟨L, hL⟩ : ∃ L : Nat → Int, L = fun r => lastD a ((V.drop i).take r) := ⟨_, rfl⟩
      have hL0 : L 0 = a := by rw [hL]; simp [lastD]
      have HLr : Hid (∀ r, lastD a ((V.drop i).take r) = L r) := Lib.hid (fun r => by rw [hL])
      clear hL
      have hwx : IntKind.i64.wrap (fk l[i] - a) = x := by rw [IntKind.wrap_i64]; exact hx
      obtain ⟨g, o, rfl, hg, c0, c1, c2, c3, c4⟩ := HE.out i hil
      have HG := Lib.hid hg
      have d0 := HW.out.cell c0
      have d1 := HW.out.cell c1
      have d2 := HW.out.cell c2
      have d3 := HW.out.cell c3
      have d4 := HW.out.cell c4
      have hg' := Nat.lt_of_lt_of_le hg HW.out.size
      have CP := Lib.hid (HP.out.call wr l[i])
      generalize (l[i]'hil : Ev) = ev at d0 d1 d2 d3 d4 CP hwx
      clear c0 c1 c2 c3 c4 hg hx
      go_wp2_with (refine CP.out.mono ?_)
      rintro z w4 ⟨rfl, n4⟩
      have W4 := Lib.hid (HW.out.trans n4)
      have B4 := Lib.hid (HBv.out.nw n4)
      clear n4 HW HBv CP d0 d1 d2 d3 d4 hg' hix
      go_wp2
      go_loopw [11, 12, 14] (fun av iv rv wz => ∃ r : Nat, r ≤ H ∧ av = .int .i64 (L r) ∧ iv = .int .i64 (i + r : Nat) ∧ rv = .int .i64 r ∧ Vec 1 wz (.slice ba B3.length bc) B3.length (B3.map u8) ∧ Nw w wz) (fun _ _ rv _ => H - (intOf rv).toNat)
      case atStart => exact ⟨0, by omega, by rw [hL0], rfl, rfl, B4.out, W4.out⟩
      case round =>
        obtain ⟨r, hr, rfl, rfl, rfl, hb, hw⟩ := hrel
        clear B4 W4
        have HBv := Lib.hid hb
        have HW := Lib.hid hw
        clear hb hw
        obtain ⟨j, hj⟩ : ∃ j, i + r = j := ⟨_, rfl⟩
        rw [hj]
        by_cases hrH : r < H
        case pos =>
          have hjn : j < n := by omega
          have hjl : j < l.length := by rw [HN.out]; exact hjn
          have hxx := H6.out r hrH
          rw [HLr.out] at hxx
          have hnx := H8.out r hrH
          rw [HLr.out] at hnx
          simp only [hj] at hxx hnx
          have hwx : IntKind.i64.wrap (fk l[j] - L r) = x := by rw [IntKind.wrap_i64]; exact hxx
          obtain ⟨g'', o'', ha, hg, c0, c1, c2, c3, c4⟩ := HE.out j hjl
          obtain ⟨rfl, rfl⟩ : g = g'' ∧ o = o'' := by simpa using ha
          have d0 := HW.out.cell c0
          have d1 := HW.out.cell c1
          have d2 := HW.out.cell c2
          have d3 := HW.out.cell c3
          have d4 := HW.out.cell c4
          have hg' := Nat.lt_of_lt_of_le hg HW.out.size
          have CP := Lib.hid (fun W => HP.out.call W l[j])
          generalize (l[j]'hjl : Ev) = ev at d0 d1 d2 d3 d4 CP hwx hnx
          have qx : (x == x) = true := by simp
          clear c0 c1 c2 c3 c4 hg hxx ha
          go_wp2_with (refine (CP.out wr).mono ?_)
          rintro z w5 ⟨rfl, n5⟩
          have N5 := Lib.hid n5
          have e0 := n5.cell d0
          have e1 := n5.cell d1
          have e2 := n5.cell d2
          have e3 := n5.cell d3
          have e4 := n5.cell d4
          have hg5 := Nat.lt_of_lt_of_le hg' n5.size
          clear n5
          go_wp2_with (refine (CP.out w5).mono ?_)
          rintro z w6 ⟨rfl, n6⟩
          have N6 := Lib.hid (N5.out.trans n6)
          clear n6
          go_wp2
          go_roundw
          case rel => exact ⟨r + 1, by omega, by rw [hnx], by rw [← hj]; go_num, by go_num, HBv.out.nw N6.out, HW.out.trans N6.out⟩
          case measure => simp [intOf]; omega
        obtain rfl : r = H := by omega
        have hT := HT2.out
        rw [HLr.out, hj] at hT
        have hBt : B3 ++ intB x ++ uintB r ++ ((runsOf fu' (deltas (L r) (V.drop j))).flatMap runB ++ Rest) = T := by
          rw [← hT]
          simp only [runB, List.append_assoc]
        have HBT := Lib.hid hBt
        clear hT hBt HT2
        have hr64 : ((r : Nat) : Int) % 18446744073709551616 = r := by omega
        have hj1 : i < j := by omega
        by_cases hjn : j < n
        case neg =>
          have HWW := HW
          go_wp2_with fail
          refine (Int_ok HBv.out x g3.1 g3.2 (by omega)).mono ?_
          rintro z w7 ⟨v7, rfl, p1, p2, p3⟩
          have O7 : Hid (Nw w w7 ∧ ∀ g, v7.ownBlock = some g → w.heap.size ≤ g) := Lib.hid ⟨HWW.out.trans' p2 (fun k hk hc => by have := HF.out k hc; omega), fun g hg => by
            rcases p3 with h | h
            · rw [h] at hg; exact HF.out g hg
            · exact Nat.le_trans HWW.out.size (h g hg)⟩
          obtain ⟨B7, hB7⟩ : ∃ B, B3 ++ intB x = B := ⟨_, rfl⟩
          rw [hB7] at p1
          obtain ⟨ca, cc, rfl, -⟩ := p1.len
          have P1 := Lib.hid p1
          have HBT := HBT.out
          rw [hB7] at HBT
          have hB7l : B7.length ≤ 10000100 := by have := HTL.out; rw [← HBT, List.length_append, List.length_append] at this; omega
          have HBT := Lib.hid HBT
          clear p1 p2 p3 hB7
          go_wp2_with fail
          refine (Uint_ok P1.out r (by omega) (by omega)).mono ?_
          rintro z w8 ⟨v8, rfl, p1, p2, p3⟩
          have O8 : Hid (Nw w w8 ∧ ∀ g, v8.ownBlock = some g → w.heap.size ≤ g) := Lib.hid ⟨O7.out.1.trans' p2 (fun k hk hc => by have := O7.out.2 k hc; omega), fun g hg => by
            rcases p3 with h | h
            · rw [h] at hg; exact O7.out.2 g hg
            · exact Nat.le_trans O7.out.1.size (h g hg)⟩
          obtain ⟨B8, hB8⟩ : ∃ B, B7 ++ uintB r = B := ⟨_, rfl⟩
          rw [hB8] at p1
          have HBT := HBT.out
          rw [hB8] at HBT
          have HBT := Lib.hid HBT
          obtain ⟨da, dc, rfl, -⟩ := p1.len
          have P1 := Lib.hid p1
          clear p1 p2 p3 hB8
          go_wp2
          go_roundw
          case rel => exact ⟨j, fu', L r, B8, by omega, by omega, rfl, rfl, P1.out, O8.out.1, O8.out.2, HBT.out⟩
          case measure => simp [intOf]; omega
        case pos =>
          have hjl : j < l.length := by rw [HN.out]; exact hjn
          have hxx := H7.out (by rw [hj]; exact hjn)
          rw [HLr.out] at hxx
          simp only [hj] at hxx
          obtain ⟨y, hy⟩ : ∃ y, w64 (fk l[j] - L r) = y := ⟨_, rfl⟩
          rw [hy] at hxx
          have hwx : IntKind.i64.wrap (fk l[j] - L r) = y := by rw [IntKind.wrap_i64]; exact hy
          obtain ⟨g'', o'', ha, hg, c0, c1, c2, c3, c4⟩ := HE.out j hjl
          obtain ⟨rfl, rfl⟩ : g = g'' ∧ o = o'' := by simpa using ha
          have d0 := HW.out.cell c0
          have d1 := HW.out.cell c1
          have d2 := HW.out.cell c2
          have d3 := HW.out.cell c3
          have d4 := HW.out.cell c4
          have hg' := Nat.lt_of_lt_of_le hg HW.out.size
          have CP := Lib.hid (HP.out.call wr l[j])
          clear hy
          generalize (l[j]'hjl : Ev) = ev at d0 d1 d2 d3 d4 CP hwx
          have qx : (y == x) = false := by simpa using hxx
          clear c0 c1 c2 c3 c4 hg ha
          go_wp2_with (refine CP.out.mono ?_)
          rintro z w5 ⟨rfl, n5⟩
          have HWW := Lib.hid (HW.out.trans n5)
          have HBv := Lib.hid (HBv.out.nw n5)
          clear n5 d0 d1 d2 d3 d4 hg' CP
          go_wp2_with fail
          refine (Int_ok HBv.out x g3.1 g3.2 (by omega)).mono ?_
          rintro z w7 ⟨v7, rfl, p1, p2, p3⟩
          have O7 : Hid (Nw w w7 ∧ ∀ g, v7.ownBlock = some g → w.heap.size ≤ g) := Lib.hid ⟨HWW.out.trans' p2 (fun k hk hc => by have := HF.out k hc; omega), fun g hg => by
            rcases p3 with h | h
            · rw [h] at hg; exact HF.out g hg
            · exact Nat.le_trans HWW.out.size (h g hg)⟩
          obtain ⟨B7, hB7⟩ : ∃ B, B3 ++ intB x = B := ⟨_, rfl⟩
          rw [hB7] at p1
          obtain ⟨ca, cc, rfl, -⟩ := p1.len
          have P1 := Lib.hid p1
          have HBT := HBT.out
          rw [hB7] at HBT
          have hB7l : B7.length ≤ 10000100 := by have := HTL.out; rw [← HBT, List.length_append, List.length_append] at this; omega
          have HBT := Lib.hid HBT
          clear p1 p2 p3 hB7
          go_wp2_with fail
          refine (Uint_ok P1.out r (by omega) (by omega)).mono ?_
          rintro z w8 ⟨v8, rfl, p1, p2, p3⟩
          have O8 : Hid (Nw w w8 ∧ ∀ g, v8.ownBlock = some g → w.heap.size ≤ g) := Lib.hid ⟨O7.out.1.trans' p2 (fun k hk hc => by have := O7.out.2 k hc; omega), fun g hg => by
            rcases p3 with h | h
            · rw [h] at hg; exact O7.out.2 g hg
            · exact Nat.le_trans O7.out.1.size (h g hg)⟩
          obtain ⟨B8, hB8⟩ : ∃ B, B7 ++ uintB r = B := ⟨_, rfl⟩
          rw [hB8] at p1
          have HBT := HBT.out
          rw [hB8] at HBT
          have HBT := Lib.hid HBT
          obtain ⟨da, dc, rfl, -⟩ := p1.len
          have P1 := Lib.hid p1
          clear p1 p2 p3 hB8
          go_wp2
          go_roundw
          case rel => exact ⟨j, fu', L r, B8, by omega, by omega, rfl, rfl, P1.out, O8.out.1, O8.out.2, HBT.out⟩
          case measure => simp [intOf]; omega
end Go.Proofs.YtjapijndljknnaaGreatDoor

/-
  A beginning of a slice of events.
-/
namespace Go.Proofs.YtjapijndljknnaaGreatDoor
open Go Go.RowKit Go.Sort
set_option maxRecDepth 100000
theorem sizeEv (W : World) : (sizeOf (Tryz.prog.elem 25)).run Tryz.prog W = .ok 5 W := by kernel_rfl
theorem elemEv : Tryz.prog.underlying 25 = some (.slice (Tryz.prog.elem 25)) := by kernel_rfl
theorem flatMap_take5 : ∀ (l : List Ev) (j : Nat), (l.take j).flatMap evV = (l.flatMap evV).take (j * 5)
  | [], j => by simp
  | e :: l, 0 => by simp
  | e :: l, j + 1 => by
    rw [List.take_succ_cons, List.flatMap_cons, List.flatMap_cons, flatMap_take5 l j, List.take_append]
    have h5 : (evV e).length = 5 := rfl
    rw [List.take_of_length_le (show (evV e).length ≤ (j + 1) * 5 by rw [h5]; omega), h5, show (j + 1) * 5 - 5 = j * 5 by omega]
/-- l[:j] -/
theorem evs_h {w : World} {a : Option Addr} {n cap : Nat} {l : List Ev} (h : SrcV 5 w (.slice a n cap) n (l.flatMap evV)) (hn : l.length = n) (hok : ∀ e ∈ l, e.Ok) (j : Nat) (hj : j ≤ n) : ∃ a' c',
    (∀ W, (Instr.slice 25 (.slice a n cap) none (some (.int .i64 j)) none).run Tryz.prog W = .ok (.slice a' j c') W) ∧ Evs w (.slice a' j c') (l.take j) := by
  obtain ⟨hlen, ⟨a0, hv, h0⟩ | ⟨g, o, c, hv, h1, h2, h3, h4⟩⟩ := h
  · injection hv with e1 e2 e3
    subst e1 e2 e3
    obtain rfl : j = 0 := by omega
    refine ⟨a, 0, fun W => ?_, ⟨⟨by simp, .inl ⟨a, by simp, by simp⟩⟩, fun e he => hok e (List.mem_of_mem_take he)⟩⟩
    rw [run_slice_h W 25 a 0 0 elemEv .i64 ((0 : Nat) : Int) (by omega) (by omega), sizeEv]
    simp [Result.andThen, sliced]
  · injection hv with e1 e2 e3
    subst e1 e3
    have hs : ∀ W, (Instr.slice 25 (.slice (some ⟨g, o, none⟩) n cap) none (some (.int .i64 j)) none).run Tryz.prog W = .ok (sliced (some ⟨g, o, none⟩) 0 j cap 5) W := fun W => by
      rw [run_slice_h W 25 (some ⟨g, o, none⟩) n cap elemEv .i64 j (by omega) (by omega), sizeEv]
      simp only [Result.andThen, Int.toNat_natCast]
    by_cases hc : cap = 0
    · subst hc
      obtain rfl : j = 0 := by omega
      refine ⟨some ⟨g, o, none⟩, 0, fun W => by rw [hs]; simp [sliced], ⟨⟨by simp, .inl ⟨some ⟨g, o, none⟩, by simp, by simp⟩⟩, fun e he => hok e (List.mem_of_mem_take he)⟩⟩
    · have hl : (l.take j).length = j := by simp; omega
      refine ⟨some ⟨g, o, none⟩, cap, fun W => by rw [hs]; simp [sliced, hc, addr_add], ⟨⟨by rw [hl, flatMap_take5, List.length_take, hlen]; omega, .inr ⟨g, o, cap, by rw [hl], by omega, h2, h3, fun i hi => ?_⟩⟩, fun e he => hok e (List.mem_of_mem_take he)⟩⟩
      rw [flatMap_take5] at hi
      have hi2 : i < (l.flatMap evV).length := by rw [List.length_take] at hi; omega
      rw [h4 i hi2]
      simp only [flatMap_take5, List.getElem_take]
theorem SrcV.keep {k : Nat} {S : Nat → Prop} {w w' : World} {v : Value} {n : Nat} {cs : List Value} (h : SrcV k w v n cs) (ho : Only S w w') (hb : ∀ g, v.ownBlock = some g → ¬ S g) : SrcV k w' v n cs := by
  obtain ⟨e, ⟨a, hv, hn⟩ | ⟨g, o, cap, rfl, h1, h2, h3, h4⟩⟩ := h
  · exact ⟨e, .inl ⟨a, hv, hn⟩⟩
  · exact ⟨e, .inr ⟨g, o, cap, rfl, h1, h2, Nat.lt_of_lt_of_le h3 ho.size, fun j hj => ho.cell (h4 j hj) (hb g rfl)⟩⟩
theorem Evs.keep {S : Nat → Prop} {w w' : World} {v : Value} {l : List Ev} (h : Evs w v l) (ho : Only S w w') (hb : ∀ g, v.ownBlock = some g → ¬ S g) : Evs w' v l := ⟨h.src.keep ho hb, h.ok⟩
end Go.Proofs.YtjapijndljknnaaGreatDoor

/-
  Package compact, walked: packed.
-/
namespace Go.Proofs.YtjapijndljknnaaGreatDoor
open Go Go.RowKit Go.Sort
set_option maxRecDepth 100000
set_option maxHeartbeats 1600000
section
variable {X : Nat → Prop} {w0 w : World} {p b : Nat} {d : Dsk} {L : Lg} {all : List Ev}
theorem LDisk_ok (h : HasL X w0 w p b d L) : Calls Tryz.prog 30 #[.pointer (some ⟨p, 0, none⟩)] w fun e w' => e = .returned (.pointer (some ⟨b, 0, none⟩)) ∧ w = w' := by
  obtain ⟨g, o, cap, h⟩ := h
  obtain ⟨c0, -⟩ := h.mem.cells
  have hp := lt_of_block h.mem.blk
  clear h
  go_enter Tryz.func30, Tryz.ntmps30
  go_wp2
  go_ret
  exact ⟨rfl, rfl⟩
theorem packed_down (h : HasL X w0 w p b d L) (hd : d.down = true) (n : Int) :
    Calls Tryz.prog 92 #[.pointer (some ⟨p, 0, none⟩), .int .i64 n] w fun e w' => e = .returned (.tuple #[.slice none 0 0, .int .i64 15]) ∧ Nw w w' := by
  have H := Lib.hid h
  have S := Lib.hid (Scan_ok h.has (.inl den_unpack) (scan_down (U := unpackB) hd))
  have D := Lib.hid (LDisk_ok h)
  clear h
  go_enter Tryz.func92, Tryz.ntmps92
  go_wp2_with fail
  refine D.out.mono ?_
  rintro e w1 ⟨rfl, rfl⟩
  go_wp2_with fail
  refine S.out.mono ?_
  rintro e w1 ⟨v1, p1, rfl, o1, o2⟩
  have N1 := Lib.hid o1.2.1
  clear o1 o2
  go_wp2
  refine bodyPost_ret (v := .tuple #[.slice none 0 0, .int .i64 15]) (by simp [results, Tryz.results92, go_sem]) rfl ⟨rfl, N1.out⟩
theorem packed_up (h : HasL X w0 w p b d L) {gd : Int} (hs : scanD unpackB d = ⟨all, L.l, gd, 0⟩) (hok : ∀ e ∈ all, e.Ok) (hl : L.l.length ≤ 1000) {n : Nat} (h1 : 1 ≤ n) (h2 : n ≤ all.length) (h3 : n ≤ 100000) :
    Calls Tryz.prog 92 #[.pointer (some ⟨p, 0, none⟩), .int .i64 n] w fun e w' => ∃ v', e = .returned (.tuple #[v', .int .i64 0]) ∧ Bs w' v' (packB 0 (all.take n)) ∧ Nw w w' ∧ ∀ g, v'.ownBlock = some g → w.heap.size ≤ g := by
  have H := Lib.hid h
  have S := Lib.hid (Scan_ok h.has (.inl den_unpack) hs)
  have D := Lib.hid (LDisk_ok h)
  have PO := Lib.hid h.pok
  obtain ⟨l, hll⟩ : ∃ l, L.l = l := ⟨_, rfl⟩
  rw [hll] at hl PO S
  have HL := Lib.hid hll
  have HOK := Lib.hid hok
  obtain ⟨m, hm⟩ : ∃ m, all.length = m := ⟨_, rfl⟩
  have HM := Lib.hid hm
  rw [hm] at h2
  clear h hs hll hok hm
  go_enter Tryz.func92, Tryz.ntmps92
  go_wp2_with fail
  refine D.out.mono ?_
  rintro e w1 ⟨rfl, rfl⟩
  go_wp2_with fail
  refine S.out.mono ?_
  rintro e w1 ⟨v1, p1, rfl, o1, o2⟩
  have N1 := Lib.hid o1.2.1
  have V1 := o1.1
  have P1 := o2.1
  rw [HM.out] at V1
  obtain ⟨ea, ec, rfl, -⟩ := V1.len
  obtain ⟨pa, pc, rfl, -⟩ := P1.len
  have PP1 : Hid (Pcs w1 (.slice pa l.length pc) l) := Lib.hid ⟨P1.src, PO.out⟩
  have V1 := Lib.hid V1
  have F1 := Lib.hid o1.2.2
  clear o1 o2 P1 S D
  go_wp2_with fail
  refine ((H.out.nw N1.out).pieces HL.out (by omega)).mono ?_
  rintro e w2 ⟨v2, rfl, q1, q2, q3⟩
  obtain ⟨qa, qc, rfl, -⟩ := q1.len
  have PP2 : Hid (Pcs w2 (.slice qa l.length qc) l) := Lib.hid ⟨q1.src, PO.out⟩
  have N2 := Lib.hid (N1.out.trans q2)
  have PP1 := Lib.hid (PP1.out.nw q2)
  have V2 := Lib.hid (V1.out.nw q2)
  clear q1 q2 q3 V1
  go_wp2_with fail
  refine (PEqual_ok PP1.out PP2.out).mono ?_
  rintro e w3 ⟨rfl, n3⟩
  have N3 := Lib.hid (N2.out.trans n3)
  have V3 := V2.out.nw n3
  obtain ⟨ca, cc, hsl, hE8⟩ := evs_h V3.src HM.out HOK.out n h2
  have hlen : (all.take n).length = n := by rw [List.length_take, HM.out]; omega
  have PK := Lib.hid (Pack_ok (by rw [hlen]; exact hE8) (by rw [hlen]; exact h1) (by rw [hlen]; exact h3) (v := .slice ca (all.take n).length cc))
  rw [hlen] at PK
  clear n3 V3 V2 PP1 PP2 hE8 hlen
  go_wp2_with fail
  refine PK.out.mono ?_
  rintro e w4 ⟨v4, rfl, b4, n4, f4⟩
  obtain ⟨xa, xc, rfl, -⟩ := b4.len
  have R := Lib.hid (And.intro b4 (And.intro n4 f4))
  have N4 := Lib.hid (N3.out.trans n4)
  clear b4 n4 f4
  go_wp2
  refine bodyPost_ret (v := .tuple #[.slice xa (packB 0 (all.take n)).length xc, .int .i64 0]) (by simp [results, Tryz.results92, go_sem]) rfl ⟨_, rfl, R.out.1, N4.out, fun g hg => Nat.le_trans N3.out.size (R.out.2.2 g hg)⟩
end
end Go.Proofs.YtjapijndljknnaaGreatDoor
