/-
  Texts merged by a program of this claim's: CompactNumbers.
-/
import Derived.Test.YtjapijndljknnaaGreatDoorM44
import Derived.Test.YtjapijndljknnaaGreatDoorM53
import Derived.Test.YtjapijndljknnaaGreatDoorM35
/-
  amanuensislaw07.CompactNumbers: the fixed examples of the chapter.
-/
namespace Go.Proofs.YtjapijndljknnaaGreatDoor.CompactNumbers
open Go Go.RowKit Go.Sort
set_option maxRecDepth 100000
set_option maxHeartbeats 3200000
theorem d30_eq : dName 30 = [100, 51, 48] := by rw [dName, Lib.decDigits_two (by omega) (by omega)]; rfl
theorem d51_eq : dName 51 = [100, 53, 49] := by rw [dName, Lib.decDigits_two (by omega) (by omega)]; rfl
theorem nine_ok : (⟨0, 0, 0, 9, 0⟩ : Ev).Ok := ⟨by unfold in64; simp, by unfold in64; simp, by unfold in64; simp, by unfold in64; simp⟩
theorem walk (w : World) (ht : Tab w) : Calls Tryz.prog 10 #[] w fun e w' => e = .returned (.bool true) ∧ Nw w w' := by
  have HT := Lib.hid ht
  have R0 : Rd i64v (w.alloc (.cells #[.int .i64 10, .int .i64 10, .int .i64 10, .int .i64 1] 3 (0, 0))) (.slice (some ⟨w.heap.size, 0, none⟩) 4 4) (cnts [10, 10, 10, 1]) := rd_lit (f := i64v) w 3 (0, 0) (cnts [10, 10, 10, 1]) _ 4 rfl (by decide) (by decide)
  have hn0 : Nw w (w.alloc (.cells #[.int .i64 10, .int .i64 10, .int .i64 10, .int .i64 1] 3 (0, 0))) := (Nw.refl w).alloc _
  have G1 := Lib.hid (logged7n_ok _ (ht.nw hn0) _ [10, 10, 10, 1] (by decide) (by decide) R0)
  have N0 := Lib.hid hn0
  clear ht R0 hn0
  go_enter Tryz.func10, Tryz.ntmps10
  go_wp2_with fail
  refine G1.out.mono ?_
  rintro e w1 ⟨b, p, d, L, rfl, hL, -, -, hs, ci⟩
  rw [s7_four] at hs
  obtain ⟨d1, d2, d3, d4, d5, L2, L3, L4, L5, gd, r1, r2, r3, r4, r5, r6, r7, r8, r9, r10⟩ := cn_run ci hs
  have HL := Lib.hid hL
  have CI := Lib.hid ci
  have Q1 := Lib.hid r1
  have Q2 := Lib.hid r2
  have Q3 := Lib.hid r3
  have Q4 := Lib.hid r4
  have Q5 := Lib.hid r5
  have Q6 := Lib.hid r6
  have Q7 := Lib.hid r7
  have Q8 := Lib.hid r8
  have Q9 := Lib.hid r9
  have Q10 := Lib.hid r10
  have O1 := Lib.hid ci.ok
  have hsl := r10
  obtain ⟨all, hall⟩ : ∃ x, [10, 10, 10, 1].flatMap zs = x := ⟨_, rfl⟩
  have hal : all.length = 31 := by rw [← hall, zs_flat_len]; rfl
  have hok := ci.ok
  rw [hall] at Q2 Q3 Q4 Q6 Q8 Q9 Q10 O1
  have HAL := Lib.hid hal
  clear hL ci hs r1 r2 r3 r4 r5 r6 r7 r8 r9 r10 G1 hsl hal hok hall CI
  have kc := fun (w : World) (C : Array Value) (n c : Nat) => Go.Lib.run_convert_bytes_const (P := Tryz.prog) w 35 5 C n c Tryz.underlying35 Tryz.underlying5
  have n2 := (Nw.refl w1).alloc (.cells #[.int .u8 114, .int .u8 117, .int .u8 98, .int .u8 98, .int .u8 105, .int .u8 115, .int .u8 104] 5 (7, 8))
  have L2' := HL.out.wider (Z := fun j => j = w1.heap.size) n2 fun j hj => .inr (by subst hj; exact ⟨Nat.le_refl _, by simp⟩)
  have R2 : Bs (w1.alloc (.cells #[.int .u8 114, .int .u8 117, .int .u8 98, .int .u8 98, .int .u8 105, .int .u8 115, .int .u8 104] 5 (7, 8))) (.slice (some ⟨w1.heap.size, 0, none⟩) 7 7) [114, 117, 98, 98, 105, 115, 104] := rd_lit (f := u8) w1 5 (7, 8) [114, 117, 98, 98, 105, 115, 104] _ 7 rfl (by decide) (by decide)
  have C2 := Lib.hid (L2'.dAppend (dName 30) [114, 117, 98, 98, 105, 115, 104] _ R2 (fun _ g hg => .inl (by cases hg; rfl)) (by rw [d30_eq]; decide) (by decide) Q1.out)
  rw [d30_eq] at C2
  clear n2 L2' R2
  go_wp2_with fail
  refine (LDisk_ok HL.out).mono ?_
  rintro e w2 ⟨rfl, rfl⟩
  go_wp2_with fail
  refine C2.out.mono ?_
  rintro e w3 ⟨rfl, hl3, -⟩
  have L3a := Lib.hid (hl3.less (Y := fun _ => False) fun k hk => hk.elim)
  clear hl3 C2 HL Q1 kc
  have C3 := Compact_ok L3a.out Q2.out O1.out (by rw [HAL.out]; decide) (HT.out.nw N0.out)
  rw [Q3.out] at C3
  have C3 := Lib.hid C3
  go_wp2_with fail
  refine C3.out.mono ?_
  rintro e w4 ⟨rfl, L4a, -⟩
  have L4a := Lib.hid L4a
  clear C3 L3a Q2 Q3
  obtain ⟨W5, hmk, nw5, vc5⟩ := makeN w4 20 (by omega) .i64
  have hmk : (Instr.makeSlice 25 (.int .i64 20) (.int .i64 20)).run Tryz.prog w4 = .ok (.slice (some ⟨w4.heap.size, 0, none⟩) 20 20) W5 := hmk
  have EV5 := Lib.hid (⟨by rw [zs_len]; exact vc5.src, zs_ok 20⟩ : Evs W5 (.slice (some ⟨w4.heap.size, 0, none⟩) 20 20) (zs 20))
  have C5 := Rk.call (L4a.out.nw nw5) Q4.out.kin Q4.out.rk (by unfold in64; omega) (by omega) (by rw [HAL.out]; omega) (HT.out.nw N0.out) EV5.out
  rw [Q5.out] at C5
  have C5 := Lib.hid C5
  clear vc5 nw5
  go_wp2_with fail
  refine C5.out.mono ?_
  rintro e w6 ⟨rfl, L6a, -⟩
  have L6a := Lib.hid L6a
  clear C5 EV5 hmk L4a Q5
  have C7 := Rk.call (L6a.out.nw ((Nw.refl w6).alloc (.cells (evV ⟨0, 0, 0, 9, 0⟩).toArray 73 (0, 0)))) Q6.out.kin Q6.out.rk (by unfold in64; omega) (by omega) (by rw [List.length_append, HAL.out, zs_len]; omega) (HT.out.nw N0.out) (ev_lit w6 ⟨0, 0, 0, 9, 0⟩ nine_ok 1 (by omega) (by decide))
  rw [Q7.out] at C7
  have C7 := Lib.hid C7
  go_wp2_with fail
  refine C7.out.mono ?_
  rintro e w8 ⟨rfl, L8a, -⟩
  have L8a := Lib.hid L8a
  clear C7 L6a Q7
  have C9 := Compact_ok L8a.out (Q8.out.kin.imp wb_whole) Q8.out.ok (by rw [List.length_append, List.length_append, HAL.out, zs_len]; decide) (HT.out.nw N0.out)
  rw [Q9.out] at C9
  have C9 := Lib.hid C9
  go_wp2_with fail
  refine C9.out.mono ?_
  rintro e w9 ⟨rfl, L9a, -⟩
  have L9a := Lib.hid L9a
  clear C9 L8a
  go_wp2_with fail
  refine (LDisk_ok L9a.out).mono ?_
  rintro e w10 ⟨rfl, rfl⟩
  go_wp2_with fail
  refine (Scan_ok L9a.out.has (.inl den_unpack) Q10.out).mono ?_
  rintro e w10 ⟨v10, u10, rfl, o1, o2⟩
  have E10 : Evs w10 v10 (all ++ zs 20 ++ [⟨0, 0, 0, 9, 0⟩]) := ⟨o1.1.src, Q8.out.ok⟩
  have hl10 : (all ++ zs 20 ++ [⟨0, 0, 0, 9, 0⟩] : List Ev).length = 52 := by rw [List.length_append, List.length_append, HAL.out, zs_len]; rfl
  obtain ⟨ea, ec, he1, hem, hel⟩ := E10.elem
  rw [hl10] at he1 hem
  subst he1
  obtain ⟨eg, eo, rfl, heg, -, -, -, hea, -⟩ := hel 51 (by rw [hl10]; decide)
  have hlast : (all ++ zs 20 ++ [⟨0, 0, 0, 9, 0⟩] : List Ev)[51]'(by rw [hl10]; decide) = ⟨0, 0, 0, 9, 0⟩ := by
    rw [List.getElem_append_right (by rw [List.length_append, HAL.out, zs_len]; decide)]
    simp [HAL.out, zs_len]
  rw [hlast] at hea
  obtain ⟨pa, pc, he2, -, -, hpl⟩ := o2.pcs.elem
  subst he2
  obtain ⟨pg, po, rfl, hpg, hp0, -, -, hp3⟩ := hpl 0 (by decide)
  have hp0 : w10.cell? ⟨pg, po, none⟩ = some (.string ⟨#[100, 53, 49]⟩) := by simpa [densePc, d51_eq] using hp0
  have hp3 : w10.cell? ⟨pg, po + 3, none⟩ = some (.bool true) := by simpa [densePc] using hp3
  have N10 := Lib.hid (L9a.out.base.trans o1.2.1)
  clear o1 o2 E10 hel hpl hlast hl10 L9a Q4 Q6 Q8 Q9 Q10 HAL O1
  have N11 := Lib.hid (N0.out.trans N10.out)
  clear N10
  have hn12 := (Nw.refl w10).alloc (.cells #[.int .i64 10, .int .i64 10, .int .i64 1] 3 (0, 0))
  have R12 : Rd i64v (w10.alloc (.cells #[.int .i64 10, .int .i64 10, .int .i64 1] 3 (0, 0))) (.slice (some ⟨w10.heap.size, 0, none⟩) 3 3) (cnts [10, 10, 1]) := rd_lit (f := i64v) w10 3 (0, 0) (cnts [10, 10, 1]) _ 3 rfl (by decide) (by decide)
  have N12 := Lib.hid (N11.out.trans hn12)
  have G12 := Lib.hid (logged7n_ok _ (HT.out.nw N12.out) _ [10, 10, 1] (by decide) (by decide) R12)
  clear R12
  go_wp2_with fail
  refine G12.out.mono ?_
  rintro e w13 ⟨b1, p1, e1, M1, rfl, hL, bt, -, hs, ci⟩
  rw [s7_tens] at hs
  obtain ⟨e2, t1, t2, t3, t4, t5, t6, t7⟩ := tens_bad bt ci hs
  have B13 := Lib.hid hL
  have T1 := Lib.hid t1
  have T2 := Lib.hid t2
  have T3 := Lib.hid t3
  have T4 := Lib.hid t4
  have T5 := Lib.hid t5
  have T6 := Lib.hid t6
  have T7 := Lib.hid t7
  clear hL bt hs ci t1 t2 t3 t4 t5 t6 t7 G12 hn12
  go_wp2_with fail
  refine (LDisk_ok B13.out).mono ?_
  rintro e w14 ⟨rfl, rfl⟩
  go_wp2_with fail
  refine (B13.out.dCut [115, 48] 20 T1.out).mono ?_
  rintro e w14 ⟨rfl, hl14, -⟩
  have B14 := Lib.hid hl14
  have C14 := Lib.hid (Compact_bad hl14 T2.out (by decide) T7.out T3.out T4.out T5.out T6.out)
  clear hl14 B13 T1
  go_wp2_with fail
  refine C14.out.mono ?_
  rintro e w15 ⟨rfl, hl15, -⟩
  have B15 := Lib.hid hl15
  have NB := Lib.hid (N12.out.trans hl15.base)
  clear hl15 C14 B14 T2 T3 T4 T5 T6
  have hn16 := (Nw.refl w15).alloc (.cells #[.int .i64 10, .int .i64 10, .int .i64 1] 3 (0, 0))
  have R16 : Rd i64v (w15.alloc (.cells #[.int .i64 10, .int .i64 10, .int .i64 1] 3 (0, 0))) (.slice (some ⟨w15.heap.size, 0, none⟩) 3 3) (cnts [10, 10, 1]) := rd_lit (f := i64v) w15 3 (0, 0) (cnts [10, 10, 1]) _ 3 rfl (by decide) (by decide)
  have N16 := Lib.hid (NB.out.trans hn16)
  have G16 := Lib.hid (logged7n_ok _ (HT.out.nw N16.out) _ [10, 10, 1] (by decide) (by decide) R16)
  clear R16
  go_wp2_with fail
  refine G16.out.mono ?_
  rintro e w17 ⟨b3, p3, e3, M3, rfl, hL, bt, -, hs, ci⟩
  rw [s7_tens] at hs
  obtain ⟨-, -, -, t3, t4, t5, t6, t7⟩ := tens_bad bt ci hs
  obtain ⟨e4, t1, t2⟩ := tens_other ci hs
  have D17 := Lib.hid hL
  have T1 := Lib.hid t1
  have T2 := Lib.hid t2
  have T3 := Lib.hid t3
  have T4 := Lib.hid t4
  have T5 := Lib.hid t5
  have T6 := Lib.hid t6
  have T8 := Lib.hid t7
  have B16 := Lib.hid (B15.out.nw hn16)
  clear hL bt hs ci t1 t2 t3 t4 t5 t6 t7 G16 hn16 B15
  go_wp2_with fail
  refine (LDisk_ok D17.out).mono ?_
  rintro e w18 ⟨rfl, rfl⟩
  have hp18 : Pcs (w17.alloc (.cells (pcV ⟨[115, 50, 48], 0, 0, false⟩).toArray 32 (0, 0))) (.slice (some ⟨w17.heap.size, 0, none⟩) 1 1) [⟨[115, 50, 48], 0, 0, false⟩] := ⟨by have := src_lit w17 32 (0, 0) 4 1 1 (pcV ⟨[115, 50, 48], 0, 0, false⟩) rfl (by omega) (by decide); simpa using this, fun q hq => by rw [List.mem_singleton.1 hq]; exact ⟨by decide, by unfold in64; simp, by unfold in64; simp⟩⟩
  have C18 := Lib.hid ((D17.out.nw ((Nw.refl w17).alloc (.cells (pcV ⟨[115, 50, 48], 0, 0, false⟩).toArray 32 (0, 0)))).dInstall hp18 T1.out)
  clear hp18
  go_wp2_with fail
  refine C18.out.mono ?_
  rintro e w19 ⟨rfl, hl19, -⟩
  have D19 := Lib.hid hl19
  have C19 := Lib.hid (Compact_bad hl19 T2.out (by decide) T8.out T3.out T4.out T5.out T6.out)
  clear hl19 C18 T1 D17
  go_wp2_with fail
  refine C19.out.mono ?_
  rintro e w20 ⟨rfl, hl20, -⟩
  have ND := Lib.hid (N16.out.trans hl20.base)
  have B20 := Lib.hid (B16.out.nw hl20.base)
  clear hl20 C19 D19 T2 T3 T4 T5 T6 T8 B16
  have hn21 := (Nw.refl w20).alloc (.cells #[.int .i64 10, .int .i64 10, .int .i64 1] 3 (0, 0))
  have R21 : Rd i64v (w20.alloc (.cells #[.int .i64 10, .int .i64 10, .int .i64 1] 3 (0, 0))) (.slice (some ⟨w20.heap.size, 0, none⟩) 3 3) (cnts [10, 10, 1]) := rd_lit (f := i64v) w20 3 (0, 0) (cnts [10, 10, 1]) _ 3 rfl (by decide) (by decide)
  have N21 := Lib.hid (ND.out.trans hn21)
  have G21 := Lib.hid (logged7n_ok _ (HT.out.nw N21.out) _ [10, 10, 1] (by decide) (by decide) R21)
  clear R21
  go_wp2_with fail
  refine G21.out.mono ?_
  rintro e w22 ⟨b5, p5, e5, M5, rfl, hL, -, -, -, ci⟩
  have F22 := Lib.hid hL
  have B21 := Lib.hid (B20.out.nw hn21)
  obtain ⟨t1, t2⟩ := sync_down ci
  have T1 := Lib.hid t1
  have T2 := Lib.hid t2
  have CI := Lib.hid ci
  clear hL t1 t2 ci G21 hn21 B20
  go_wp2_with fail
  refine (LDisk_ok F22.out).mono ?_
  rintro e w23 ⟨rfl, rfl⟩
  go_wp2_with fail
  refine (F22.out.armed 0 (by omega)).mono ?_
  rintro e w23 ⟨rfl, hl23, -⟩
  have C23 := LSync_ok hl23
  obtain ⟨R, hR⟩ : ∃ R, M5.sync (e5.armed 0) = R := ⟨_, rfl⟩
  rw [hR] at C23 T1 T2
  obtain ⟨e6, M6, x6⟩ := R
  simp only at C23 T1 T2
  have C23 := Lib.hid C23
  clear hl23 F22 hR
  go_wp2_with fail
  refine C23.out.mono ?_
  rintro e w24 ⟨rfl, hl24, -⟩
  have C24 := Compact_ok hl24 T2.out CI.out.ok (by rw [zs_flat_len]; decide) (HT.out.nw N21.out)
  rw [comp_over T1.out] at C24
  have C24 := Lib.hid C24
  clear hl24 C23
  go_wp2_with fail
  refine C24.out.mono ?_
  rintro e w25 ⟨rfl, hl25, -⟩
  have N25 := Lib.hid (N21.out.trans hl25.base)
  have B25 := Lib.hid (B21.out.nw hl25.base)
  clear hl25 C24 B21 T1 T2 CI
  go_wp2_with fail
  refine (Compact_none (.inl rfl)).mono ?_
  rintro e w26 ⟨rfl, n26⟩
  have N26 := Lib.hid (N25.out.trans n26)
  have B26 := Lib.hid (B25.out.nw n26)
  clear n26 N25 B25
  have hn27 := (Nw.refl w26).alloc (.cells #[.pointer none, .int .i64 0, .slice none 0 0, .int .i64 0, .int .i64 0, .int .i64 0, .bool false] 90)
  have HZ : ZeroLog (w26.alloc (.cells #[.pointer none, .int .i64 0, .slice none 0 0, .int .i64 0, .int .i64 0, .int .i64 0, .bool false] 90)) w26.heap.size := by constructor <;> go_simp
  have C27 := Lib.hid (Compact_none (.inr ⟨_, rfl, HZ⟩))
  have N27 := Lib.hid (N26.out.trans hn27)
  have B27 := Lib.hid (B26.out.nw hn27)
  clear hn27 HZ B26 N26
  go_wp2_with fail
  refine C27.out.mono ?_
  rintro e w28 ⟨rfl, n28⟩
  have N28 := Lib.hid (N27.out.trans n28)
  have B28 := Lib.hid (B27.out.nw n28)
  clear n28 N27 B27 C27
  go_wp2_with fail
  refine (B28.out.over T7.out).mono ?_
  rintro e w29 ⟨rfl, rfl⟩
  have AW := Lib.hid (awake7_ok w28 (HT.out.nw N28.out))
  go_wp2_with fail
  refine AW.out.mono ?_
  rintro e w30 ⟨rfl, n30⟩
  have N30 := Lib.hid (N28.out.trans n30)
  clear n30
  go_wp2
  go_ret
  exact ⟨rfl, N30.out⟩
end Go.Proofs.YtjapijndljknnaaGreatDoor.CompactNumbers
