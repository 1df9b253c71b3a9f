/-
  Texts merged by a program of this claim's: DocP, NoDisk, LogDisk.
-/
import Derived.Test.YtkhcdbafcigeoaaGreatDoorM27
import Derived.Test.YtkhcdbafcigeoaaGreatDoorM29
import Derived.Test.YtkhcdbafcigeoaaGreatDoorM5
import Derived.Test.YtkhcdbafcigeoaaGreatDoorM39
import Derived.Test.YtkhcdbafcigeoaaGreatDoorLogJS
namespace Go.Proofs.YtkhcdbafcigeoaaGreatDoor
open Go Go.RowKit Go.Sort
set_option maxRecDepth 100000
set_option maxHeartbeats 1600000
def numOf (e : Ev) : Nat → Int
  | 0 => e.thread
  | 1 => e.op.toNat
  | 2 => e.obj
  | 3 => e.a
  | _ => e.b
theorem dNumber_ok (e : Ev) (k : Nat) (hk : k < 5) (w : World) : Calls Tryz.prog 76 #[.agg #[.int .i64 e.thread, .int .u8 e.op.toNat, .int .i64 e.obj, .int .i64 e.a, .int .i64 e.b], .int .i64 k] w fun z w' => z = .returned (.int .i64 (numOf e k)) ∧ Nw w w' := by
  have hop : IntKind.i64.wrap (e.op.toNat : Int) = (e.op.toNat : Int) := IntWalk.i64_in _ (by have := e.op.toNat_lt; omega)
  match k, hk with
  | 0, _ =>
    go_enter Tryz.func76, Tryz.ntmps76
    go_wp2
    go_ret
    exact ⟨rfl, (Nw.refl w).alloc _⟩
  | 1, _ =>
    go_enter Tryz.func76, Tryz.ntmps76
    go_wp2
    go_ret
    exact ⟨rfl, (Nw.refl w).alloc _⟩
  | 2, _ =>
    go_enter Tryz.func76, Tryz.ntmps76
    go_wp2
    go_ret
    exact ⟨rfl, (Nw.refl w).alloc _⟩
  | 3, _ =>
    go_enter Tryz.func76, Tryz.ntmps76
    go_wp2
    go_ret
    exact ⟨rfl, (Nw.refl w).alloc _⟩
  | 4, _ =>
    go_enter Tryz.func76, Tryz.ntmps76
    go_wp2
    go_ret
    exact ⟨rfl, (Nw.refl w).alloc _⟩
theorem infoL : (Tryz.prog.info? 2).map (fun i => (i.zero, i.size, i.bytes)) = some (some (.int .i64 0), 1, 8) := by kernel_rfl
def zB : List UInt8 := intB 0 ++ uintB 2
def packs (k : Nat) : List UInt8 := [65, 77, 68, 49] ++ uintB 0 ++ uintB 2 ++ (List.replicate k zB).flatten
theorem packs_succ (k : Nat) : packs (k + 1) = packs k ++ intB 0 ++ uintB 2 := by
  unfold packs
  rw [List.replicate_succ', List.flatten_append]
  simp [zB]
theorem packs_len (k : Nat) (hk : k ≤ 5) : (packs k).length ≤ 20 := by
  match k, hk with
  | 0, _ => decide +kernel
  | 1, _ => decide +kernel
  | 2, _ => decide +kernel
  | 3, _ => decide +kernel
  | 4, _ => decide +kernel
  | 5, _ => decide +kernel
theorem pack_two : sealB sumB (packs 5) = packB 0 [Ev.zero, Ev.zero] := by decide +kernel
theorem dPack_two {w : World} {g : Nat} (hv : Evs w (.slice (some ⟨g, 0, none⟩) 2 2) [Ev.zero, Ev.zero]) :
    Calls Tryz.prog 19 #[.int .i64 0, .slice (some ⟨g, 0, none⟩) 2 2] w (NewE w (packB 0 [Ev.zero, Ev.zero])) := by
  rw [← pack_two]
  obtain ⟨i0, hi, hz0, hz1, hz2⟩ := info_parts infoU8
  have HI := Lib.hid hi
  have HZ0 := Lib.hid hz0
  have HZ1 := Lib.hid hz1
  have HZ2 := Lib.hid hz2
  obtain ⟨i1, hi1, hy0, hy1, hy2⟩ := info_parts infoL
  have HI1 := Lib.hid hi1
  have HY0 := Lib.hid hy0
  have HY1 := Lib.hid hy1
  have HY2 := Lib.hid hy2
  clear hi hz0 hz1 hz2 hi1 hy0 hy1 hy2
  obtain ⟨a0, cap0, he0, -, hel⟩ := evs_at hv
  injection he0 with e1 _ _
  subst e1
  have HC : Hid (∀ W, Nw w W → ∀ i, i < 2 → EvAt W g (i * 5) Ev.zero) := Lib.hid (fun W hW i hi => by
    obtain ⟨g', o', e', -, h'⟩ := hel i hi
    obtain ⟨rfl, rfl⟩ : g = g' ∧ 0 = o' := by simpa using e'
    have e2 : ([Ev.zero, Ev.zero] : List Ev)[i]'hi = Ev.zero := by
      match i, hi with
      | 0, _ => rfl
      | 1, _ => rfl
    rw [e2, Nat.zero_add] at h'
    exact h'.nw hW)
  clear hel hv
  have V0 := Lib.hid (vec_lit w 5 1 4 (([65, 77, 68, 49] : List UInt8).map Go.Proofs.YtkhcdbafcigeoaaGreatDoor.u8) _ (0, 0) rfl rfl (by decide) (fun j hj => by omega))
  go_enter Tryz.func19, Tryz.ntmps19
  go_wp2_with fail
  refine (rUint_ok (l := [65, 77, 68, 49]) V0.out.rd 0 (by omega) (by simp)).mono ?_
  rintro e w1 ⟨v1, rfl, q1, q2, q3⟩
  obtain ⟨P1, hP1⟩ : ∃ x, [65, 77, 68, 49] ++ uintB 0 = x := ⟨_, rfl⟩
  obtain ⟨U2, hU2⟩ : ∃ x, uintB 2 = x := ⟨_, rfl⟩
  have hl1 : P1.length = 5 := by rw [← hP1]; decide +kernel
  have hl2 : U2.length = 1 := by rw [← hU2]; decide +kernel
  have h12 : P1 ++ U2 = packs 0 := by rw [← hP1, ← hU2]; decide +kernel
  have HP12 := Lib.hid h12
  have HL1 := Lib.hid hl1
  have HL2 := Lib.hid hl2
  have HU2 := Lib.hid hU2
  rw [hP1] at q1
  clear hP1 hl1 hl2 h12 hU2
  obtain ⟨xa, xc, rfl, -⟩ := q1.len
  have V1 := Lib.hid q1
  have N1 : Hid (Nw w w1) := Lib.hid (((Nw.refl w).alloc _).trans q2)
  have F1 := Lib.hid q3
  clear q1 q2 q3 V0
  go_wp2_with fail
  refine (Varint_ok 2 (by omega) w1).mono ?_
  rintro e w2 ⟨v2, rfl, q1, q2, q3⟩
  rw [HU2.out] at q1
  obtain ⟨ya, yc, rfl, -⟩ := q1.len
  have V2 := Lib.hid q1
  have N2 := Lib.hid q2
  clear q1 q2 q3
  go_wp2_with (at_builtin; refine wpList_append_vec rfl _ _ 23 rfl 5 i0 (.int .u8 0) 1 1 Tryz.underlying23 HI.out HZ0.out HZ1.out HZ2.out rfl (by decide) rfl rfl (V1.out.nw N2.out) V2.out.src (u8s_one _) ?c3 ?c4 ?_)
  case c3 => rw [HL1.out, HL2.out]; decide
  case c4 => rw [HL1.out, HL2.out]; decide
  intro v3 w3 q1 q2 q3
  have V3 : Hid (Vec 1 w3 v3 (packs 0).length ((packs 0).map Go.Proofs.YtkhcdbafcigeoaaGreatDoor.u8)) := Lib.hid (by
    rw [← HP12.out, List.map_append, List.length_append]
    exact q1)
  have N3 : Hid (Nw w w3) := Lib.hid ((N1.out.trans N2.out).trans' q2 (fun k hk e => by have := F1.out k e; simp only [World.size_alloc] at this; omega))
  have F3 : Hid (∀ g, v3.ownBlock = some g → w.heap.size ≤ g) := Lib.hid (fun g hg => by
    have h1 := N1.out.size
    have h2 := N2.out.size
    rcases q3 with hf | hf
    · have := F1.out g (hf ▸ hg); simp only [World.size_alloc] at this; omega
    · have := hf g hg; omega)
  obtain ⟨za, zc, rfl, -⟩ := q1.len
  clear q1 q2 q3 V1 N1 F1 V2 N2
  go_wp2
  go_loopw [6, 7] (fun v iv wr => ∃ (k : Nat) (a : Option Addr) (c : Nat), k ≤ 5 ∧ iv = .int .i64 k ∧ v = .slice a (packs k).length c ∧ Vec 1 wr v (packs k).length ((packs k).map Go.Proofs.YtkhcdbafcigeoaaGreatDoor.u8) ∧ Nw w wr ∧ ∀ g, v.ownBlock = some g → w.heap.size ≤ g) (fun _ iv _ => 5 - (intOf iv).toNat)
  case atStart =>
    have e0 : P1.length + U2.length = (packs 0).length := by rw [← HP12.out, List.length_append]
    rw [e0] at F3 V3 ⊢
    exact ⟨0, za, zc, by omega, rfl, rfl, V3.out, N3.out, F3.out⟩
  case round =>
    obtain ⟨k, a, c, hk, rfl, rfl, hV, hN, hF⟩ := hrel
    have HV := Lib.hid hV
    have HN := Lib.hid hN
    have HF := Lib.hid hF
    have hpl := packs_len k hk
    clear hV hN hF V3 N3 F3
    by_cases h5 : k < 5
    · have q1 : decide ((k : Int) < 5) = true := by simp; omega
      have hps := Lib.hid (packs_succ k)
      obtain ⟨P, hP⟩ : ∃ x, packs k = x := ⟨_, rfl⟩
      obtain ⟨P', hP'⟩ : ∃ x, packs (k + 1) = x := ⟨_, rfl⟩
      rw [hP, hP'] at hps
      rw [hP] at HV HF hpl ⊢
      have HP' := Lib.hid hP'
      clear hP hP'
      have hn0 : numOf Ev.zero k = 0 := by
        match k, h5 with
        | 0, _ => rfl
        | 1, _ => rfl
        | 2, _ => rfl
        | 3, _ => rfl
        | 4, _ => rfl
      have HN0 := Lib.hid hn0
      clear hn0
      go_wp2
      go_loopw [8, 9, 10] (fun v8 v9 v10 wx => ∃ (i : Nat) (a8 : Option Addr) (c8 : Nat), i ≤ 2 ∧ v10 = .int .i64 i ∧ v9 = .int .i64 0 ∧ v8 = .slice a8 i c8 ∧ Vec 1 wx v8 i (List.replicate i (.int .i64 0)) ∧ Nw w wx ∧ Vec 1 wx (.slice a P.length c) P.length (P.map Go.Proofs.YtkhcdbafcigeoaaGreatDoor.u8) ∧ (∀ g, v8.ownBlock = some g → (Value.slice a P.length c).ownBlock ≠ some g ∧ w.heap.size ≤ g)) (fun _ _ v10 _ => 2 - (intOf v10).toNat)
      case atStart => exact ⟨0, none, 0, by omega, rfl, rfl, rfl, Vec.nil, HN.out, HV.out, fun g hg => by cases hg⟩
      case round =>
        obtain ⟨i, a8, c8, hi, rfl, rfl, rfl, h8, hn, hv, hf⟩ := hrel
        have H8 := Lib.hid h8
        have HN' := Lib.hid hn
        have HV' := Lib.hid hv
        have HF8 := Lib.hid hf
        clear h8 hn hv hf HV HN
        by_cases hi2 : i < 2
        · have q2 : decide ((i : Int) < 2) = true := by simp; omega
          have hi0 : (0 : Int) ≤ (i : Int) := by omega
          have hwi : IntKind.i64.wrap ((i : Int) + 1) = ((i + 1 : Nat) : Int) := by rw [← Int.natCast_one, ← Int.natCast_add]; exact IntWalk.i64_in _ (by omega)
          obtain ⟨e0, e1, e2, e3, e4⟩ := HC.out _ HN'.out i hi2
          go_wp2_with fail
          refine (dNumber_ok Ev.zero k h5 _).mono ?_
          rintro z w5 ⟨rfl, n5⟩
          have N5 := Lib.hid n5
          rw [HN0.out]
          clear n5 e0 e1 e2 e3 e4
          have s4 := src_lit w5 2 (0, 0) 1 1 1 [.int .i64 0] rfl (by omega) (by simp [maxLen])
          have X4 := Lib.hid s4
          clear s4
          go_wp2_with (at_builtin; refine wpList_append_vec rfl _ _ 120 rfl 2 i1 (.int .i64 0) 1 8 Tryz.underlying120 HI1.out HY0.out HY1.out HY2.out rfl (by decide) rfl rfl (H8.out.nw (N5.out.alloc _)) X4.out ?c3 ?c4 ?c5 ?_)
          case c3 => exact fun u hu => by rw [List.mem_singleton] at hu; subst hu; rfl
          case c4 => simp [maxLen]; omega
          case c5 => first | omega | (simp; omega)
          intro v6 w6 q4 q5 q6
          obtain ⟨a9, c9, rfl, -⟩ := q4.len
          have V6 : Hid (Vec 1 w6 (.slice a9 (i + 1) c9) (i + 1) (List.replicate (i + 1) (.int .i64 0))) := Lib.hid (by rw [List.replicate_succ']; exact q4)
          have N6 : Hid (Nw w w6) := Lib.hid (((HN'.out.trans N5.out).alloc _).trans' q5 (fun j hj e => by have := (HF8.out j e).2; omega))
          have O6 : Hid (Vec 1 w6 (.slice a P.length c) P.length (P.map Go.Proofs.YtkhcdbafcigeoaaGreatDoor.u8)) := Lib.hid (by
            have h0 := HV'.out.nw (N5.out.alloc (.cells #[.int .i64 0] 2 (0, 0)))
            exact h0.keep q5.size (fun j e => q5.block j (h0.lt j e) (fun h => (HF8.out j h).1 e)))
          have F6 : Hid (∀ j, (Value.slice a9 (i + 1) c9).ownBlock = some j → (Value.slice a P.length c).ownBlock ≠ some j ∧ w.heap.size ≤ j) := Lib.hid (fun j hj => by
            rcases q6 with hq | hq
            · exact HF8.out j (hq ▸ hj)
            · have h1 := hq j hj
              have h2 := N5.out.size
              have h3 := HN'.out.size
              exact ⟨fun e => by have := HV'.out.lt j e; omega, by omega⟩)
          clear q4 q5 q6 H8 X4 HV' HF8
          go_wp2
          go_roundw
          case rel => exact ⟨i + 1, a9, c9, by omega, by first | rfl | (simp; done) | rw [hwi], rfl, rfl, V6.out, N6.out, O6.out, F6.out⟩
          case measure => simp only [intOf]; omega
        · obtain rfl : i = 2 := by omega
          have q2 : decide ((2 : Int) < 2) = false := by decide
          rw [show ((2 : Nat) : Int) = (2 : Int) from rfl]
          have h8 := H8.out
          obtain ⟨-, ⟨h, -⟩ | ⟨g8, o8, cap8, he8, k1, k2, k3, k4, k5, k6⟩⟩ := h8
          · cases h
          injection he8 with e1 e2 e3
          subst e1
          have D8 : Hid (∀ W, Nw wr W → W.cell? ⟨g8, o8, none⟩ = some (.int .i64 0) ∧ W.cell? ⟨g8, o8 + 1, none⟩ = some (.int .i64 0)) := Lib.hid (fun W hW => ⟨hW.cell (by simpa using k6 0 (by simp)), hW.cell (by simpa using k6 1 (by simp))⟩)
          obtain ⟨W3, hW3⟩ : ∃ x, x = wr := ⟨_, rfl⟩
          subst hW3
          clear k1 k2 k3 k4 k5 k6
          have hne8 : Hid ((Value.slice a P.length c).ownBlock ≠ some g8 ∧ w.heap.size ≤ g8) := Lib.hid (HF8.out g8 rfl)
          have hlt8 := Lib.hid (H8.out.lt g8 rfl)
          go_wp2
          go_loopw [6, 12] (fun v6 v12 wx => ∃ (j : Nat) (L : List UInt8) (a6 : Option Addr) (c6 : Nat), ((j = 0 ∧ L = P) ∨ (j = 2 ∧ L = P')) ∧ v12 = .int .i64 j ∧ v6 = .slice a6 L.length c6 ∧ Vec 1 wx v6 L.length (L.map Go.Proofs.YtkhcdbafcigeoaaGreatDoor.u8) ∧ Nw w wx ∧ (wx.cell? ⟨g8, o8, none⟩ = some (.int .i64 0) ∧ wx.cell? ⟨g8, o8 + 1, none⟩ = some (.int .i64 0)) ∧ g8 < wx.heap.size ∧ (∀ g, v6.ownBlock = some g → g ≠ g8 ∧ w.heap.size ≤ g)) (fun _ v12 _ => 2 - (intOf v12).toNat)
          case atStart => exact ⟨0, P, a, c, .inl ⟨rfl, rfl⟩, rfl, rfl, HV'.out, HN'.out, D8.out _ (Nw.refl _), hlt8.out, fun j hj => ⟨fun e => hne8.out.1 (by rw [← e]; exact hj), HF.out j hj⟩⟩
          case round =>
            obtain ⟨j, L, a6, c6, hjL, rfl, rfl, hv6, hn6, hc6, hl6, hf6⟩ := hrel
            have V6 := Lib.hid hv6
            have N6 := Lib.hid hn6
            have F6 := Lib.hid hf6
            have L6 := Lib.hid hl6
            have C6 := Lib.hid hc6
            clear hv6 hn6 hf6 hl6 hc6 HV' HN' D8 hlt8 H8 HF8
            rcases hjL with ⟨rfl, rfl⟩ | ⟨rfl, rfl⟩
            · obtain ⟨W4, hW4⟩ : ∃ x, x = wr := ⟨_, rfl⟩
              subst hW4
              go_wp2
              go_loopw [13] (fun v13 wx => ∃ r : Nat, (r = 1 ∨ r = 2) ∧ v13 = .int .i64 r ∧ Nw W4 wx) (fun v13 _ => 2 - (intOf v13).toNat)
              case atStart => exact ⟨1, .inl rfl, rfl, Nw.refl _⟩
              case round =>
                obtain ⟨r, hr, rfl, hn4⟩ := hrel
                have N4 := Lib.hid hn4
                obtain ⟨x0, x1⟩ := C6.out
                have y0 := hn4.cell x0
                have y1 := hn4.cell x1
                clear hn4 x0 x1
                rcases hr with rfl | rfl
                · go_upto_region 22 with fail
                  refine wp_region_quiet_below (by kernel_rfl) (by kernel_rfl) ?_
                  have z0 := cellG y0
                  have z1 := cellG y1
                  repeat (first | go_big_quiet_step (fail) | quiet_step (fail))
                  refine wpQuiet_nil ?_
                  intro w7 hw7
                  have N7 := Lib.hid (N4.out.trans (Nw.of_regrown hw7))
                  clear hw7 z0 z1 y0 y1
                  go_wp2
                  go_roundw
                  case rel => exact ⟨2, .inr rfl, by first | rfl | simp, N7.out⟩
                  case measure => simp [intOf]
                · go_upto_region 22 with fail
                  refine wp_region_quiet_below (by kernel_rfl) (by kernel_rfl) ?_
                  repeat (first | go_big_quiet_step (fail) | quiet_step (fail))
                  refine wpQuiet_nil ?_
                  intro w7 hw7
                  have N7 := Lib.hid (N4.out.trans (Nw.of_regrown hw7))
                  clear hw7
                  obtain ⟨x0, x1⟩ := C6.out
                  have z0 := N7.out.cell x0
                  clear x0 x1 y0 y1
                  have IO := Lib.hid (dInt_ok (v := .slice a6 L.length c6) (V6.out.nw N7.out).rd 0 (by omega) (by omega) (by omega))
                  go_wp2_with fail
                  refine IO.out.mono ?_
                  rintro z w8 ⟨v8, rfl, b8, n8, f8⟩
                  obtain ⟨Q, hQ⟩ : ∃ x, L ++ intB 0 = x := ⟨_, rfl⟩
                  have hQl : Q.length ≤ 40 := by rw [← hQ, List.length_append]; have := intB_len (n := 0) (by unfold in64; omega); omega
                  rw [hQ] at b8
                  obtain ⟨a9, c9, rfl, -⟩ := b8.len
                  have B8 := Lib.hid b8
                  have N8 := Lib.hid (N7.out.trans n8)
                  have S78 := Lib.hid (N7.out.size)
                  have F8 := Lib.hid f8
                  have HQ := Lib.hid hQ
                  clear b8 n8 f8 hQ IO z0
                  go_wp2_with fail
                  refine (Varint_ok 2 (by omega) w8).mono ?_
                  rintro z w9 ⟨v9, rfl, b9, n9, f9⟩
                  have hU := uintB_len 2 10 (by omega) (by decide)
                  obtain ⟨U, hUe⟩ : ∃ x, uintB 2 = x := ⟨_, rfl⟩
                  rw [hUe] at b9 hU
                  obtain ⟨a10, c10, rfl, -⟩ := b9.len
                  have B9 := Lib.hid b9
                  have N9 := Lib.hid n9
                  have HU := Lib.hid hUe
                  have HUL := Lib.hid hU
                  clear b9 n9 f9 hU hUe
                  go_wp2_with (at_builtin; refine wpList_append_vec rfl _ _ 23 rfl 5 i0 (.int .u8 0) 1 1 Tryz.underlying23 HI.out HZ0.out HZ1.out HZ2.out rfl (by decide) rfl rfl (B8.out.nw N9.out) B9.out.src (u8s_one _) ?c6 ?c7 ?_)
                  case c6 => have := HUL.out; simp [maxLen]; omega
                  case c7 => have := HUL.out; simp; omega
                  intro v11 w11 q4 q5 q6
                  obtain ⟨a11, c11, rfl, -⟩ := q4.len
                  have hPQ : P' = Q ++ U := by rw [hps.out, ← HQ.out, HU.out]
                  have V11 : Hid (Vec 1 w11 (.slice a11 (Q.length + U.length) c11) P'.length (P'.map Go.Proofs.YtkhcdbafcigeoaaGreatDoor.u8)) := Lib.hid (by rw [hPQ, List.length_append, List.map_append]; exact q4)
                  have HPL : Hid (P'.length = Q.length + U.length) := Lib.hid (by rw [hPQ, List.length_append])
                  have N11 : Hid (Nw W4 w11) := Lib.hid ((N8.out.trans N9.out).trans' q5 (fun j hj e => by have := F8.out j e; have := S78.out; omega))
                  have F11 : Hid (∀ j, (Value.slice a11 (Q.length + U.length) c11).ownBlock = some j → j ≠ g8 ∧ w.heap.size ≤ j) := Lib.hid (fun j hj => by
                    have h1 := N6.out.size
                    have h2 := S78.out
                    have h3 := L6.out
                    have h4 := N8.out.size
                    have h5 := N9.out.size
                    rcases q6 with hq | hq
                    · have := F8.out j (hq ▸ hj); omega
                    · have := hq j hj; omega)
                  clear q4 q5 q6 hPQ B8 B9
                  go_wp2
                  go_roundw
                  case rel =>
                    obtain ⟨x0, x1⟩ := C6.out
                    exact ⟨2, P', a11, c11, .inr ⟨rfl, rfl⟩, rfl, by rw [HPL.out], V11.out, N6.out.trans N11.out, ⟨N11.out.cell x0, N11.out.cell x1⟩, Nat.lt_of_lt_of_le L6.out N11.out.size, F11.out⟩
                  case measure => simp [intOf]
            · rw [show ((2 : Nat) : Int) = (2 : Int) from rfl]
              obtain ⟨W4, hW4⟩ : ∃ x, x = wr := ⟨_, rfl⟩
              subst hW4
              have hwk : IntKind.i64.wrap ((k : Int) + 1) = ((k + 1 : Nat) : Int) := by rw [← Int.natCast_one, ← Int.natCast_add]; exact IntWalk.i64_in _ (by omega)
              go_wp2
              go_roundw
              case rel => exact ⟨k + 1, a6, c6, by omega, by first | rfl | (simp; done) | rw [hwk], by rw [HP'.out], by rw [HP'.out]; exact V6.out, N6.out, fun j hj => (F6.out j hj).2⟩
              case measure => simp only [intOf]; omega
    · obtain rfl : k = 5 := by omega
      rw [show ((5 : Nat) : Int) = (5 : Int) from rfl]
      obtain ⟨P, hP⟩ : ∃ x, packs 5 = x := ⟨_, rfl⟩
      have HP := Lib.hid hP
      rw [hP] at HV HF hpl ⊢
      clear hP
      have SE := Lib.hid (rSeal_ok (w := wr) HV.out.rd (by omega))
      go_wp2_with fail
      refine SE.out.mono ?_
      rintro z w3 ⟨v3, rfl, b3, n3, f3⟩
      obtain ⟨a3, c3, rfl, -⟩ := b3.len
      have B3 := Lib.hid b3
      have N3 := Lib.hid (HN.out.trans n3)
      have F3 := Lib.hid f3
      have S3 := Lib.hid HN.out.size
      clear b3 n3 f3 SE
      go_wp2
      exact bodyPost_ret (v := .tuple #[_, .int .i64 0]) (by simp [results, Tryz.results19, go_sem]) rfl ⟨_, rfl, by rw [HP.out]; exact B3.out, N3.out, fun j hj => Nat.le_trans S3.out (F3.out j hj)⟩
end Go.Proofs.YtkhcdbafcigeoaaGreatDoor

namespace Go.Proofs.YtkhcdbafcigeoaaGreatDoor
open Go Go.RowKit Go.Sort
set_option maxRecDepth 100000
set_option maxHeartbeats 800000
def NoDisk (w : World) (v : Value) : Prop := v = .pointer none ∨ ∃ b, v = .pointer (some ⟨b, 0, none⟩) ∧ w.cell? ⟨b, 0, none⟩ = some (.map none)
theorem NoDisk.nw {w w' : World} {v : Value} (h : NoDisk w v) (hw : Nw w w') : NoDisk w' v := h.imp id fun ⟨b, h1, h2⟩ => ⟨b, h1, hw.cell h2⟩
theorem up_no {w : World} {v : Value} (h : NoDisk w v) : Calls Tryz.prog 136 #[v] w fun e w' => e = .returned (.int .i64 1) ∧ w = w' := by
  rcases h with rfl | ⟨b, rfl, h⟩
  · exact up_nil w
  · exact up_zero w b h
theorem Read_no {w : World} {v n : Value} (h : NoDisk w v) : Calls Tryz.prog 97 #[v, n] w fun e w' => e = .returned (.tuple #[.slice none 0 0, .int .i64 1]) ∧ w = w' := by
  have H := Lib.hid h
  clear h
  go_enter Tryz.func97, Tryz.ntmps97
  go_wp2_with fail
  refine (up_no H.out).mono ?_
  rintro e w' ⟨rfl, rfl⟩
  go_wp2
  go_ret2
  exact ⟨rfl, rfl⟩
end Go.Proofs.YtkhcdbafcigeoaaGreatDoor

namespace Go.Proofs.YtkhcdbafcigeoaaGreatDoor
open Go Go.RowKit Go.Sort
section
variable {X : Nat → Prop} {w0 w w' : World} {p b : Nat} {d d' : Dsk} {L : Lg} {x : Int}
end
end Go.Proofs.YtkhcdbafcigeoaaGreatDoor
