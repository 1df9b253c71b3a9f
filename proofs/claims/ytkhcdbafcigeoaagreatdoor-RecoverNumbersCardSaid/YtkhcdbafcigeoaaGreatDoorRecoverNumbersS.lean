/-
  Texts merged by a program of this claim's: RecoverNumbers.
-/
import Derived.Test.YtkhcdbafcigeoaaGreatDoorRNRS
import Derived.Test.YtkhcdbafcigeoaaGreatDoorM39
import Derived.Test.YtkhcdbafcigeoaaGreatDoorM40
import Derived.Test.YtkhcdbafcigeoaaGreatDoorM20
import Derived.Test.YtkhcdbafcigeoaaGreatDoorM7
namespace Go.Proofs.YtkhcdbafcigeoaaGreatDoor.RecoverNumbers
open Go Go.RowKit Go.Sort
set_option maxRecDepth 100000
set_option maxHeartbeats 3200000
theorem scan_nil (w : World) : Calls Tryz.prog 21 #[.pointer none] w fun e w' => e = .returned (.tuple #[.slice none 0 0, .slice none 0 0, .int .i64 1]) ∧ w = w' := by
  have hs : Calls Tryz.prog 78 #[.pointer none] w fun e w' => e = .returned (.tuple #[.slice none 0 0, .slice none 0 0, .int .i64 0, .int .i64 1]) ∧ w = w' := by
    have RN := Lib.hid (Read_no (w := w) (v := .pointer none) (n := .string ⟨#[109, 97, 110, 105, 102, 101, 115, 116]⟩) (.inl rfl))
    go_enter Tryz.func78, Tryz.ntmps78
    go_wp2_with fail
    refine RN.out.mono ?_
    rintro z w1 ⟨rfl, rfl⟩
    go_wp2
    exact bodyPost_ret (v := .tuple #[.slice none 0 0, .slice none 0 0, .int .i64 0, .int .i64 1]) (by simp [results, Tryz.results78, go_sem]) rfl ⟨rfl, rfl⟩
  have HS := Lib.hid hs
  go_enter Tryz.func21, Tryz.ntmps21
  go_wp2_with fail
  refine HS.out.mono ?_
  rintro z w1 ⟨rfl, rfl⟩
  go_wp2
  exact bodyPost_ret (v := .tuple #[.slice none 0 0, .slice none 0 0, .int .i64 1]) (by simp [results, Tryz.results21, go_sem]) rfl ⟨rfl, rfl⟩
theorem pc_lit2 (w : World) (q r : Pc) (hq : q.Ok) (hr : r.Ok) : Pcs (w.alloc (.cells (pcV q ++ pcV r).toArray 39 (0, 0))) (.slice (some ⟨w.heap.size, 0, none⟩) 2 2) [q, r] :=
  ⟨by have := src_lit w 39 (0, 0) 4 2 2 (pcV q ++ pcV r) rfl (by omega) (by decide); simpa using this, fun x hx => by
    simp only [List.mem_cons, List.mem_nil_iff, or_false] at hx
    rcases hx with rfl | rfl
    · exact hq
    · exact hr⟩
theorem pcok {s : Str} {a b : Int} {x : Bool} (h1 : s.length ≤ 9223372036854775807) (h2 : (-9223372036854775808 ≤ a ∧ a ≤ 9223372036854775807) ∧ -9223372036854775808 ≤ b ∧ b ≤ 9223372036854775807) : (⟨s, a, b, x⟩ : Pc).Ok := ⟨h1, h2.1, h2.2⟩
theorem pp_lit (w : World) : Pcs (w.alloc (.cells #[.string ⟨#[100, 50]⟩, .int .i64 0, .int .i64 2, .bool true, .string ⟨#[115, 50]⟩, .int .i64 2, .int .i64 0, .bool false] 39 (0, 0))) (.slice (some ⟨w.heap.size, 0, none⟩) 2 2) pp :=
  pc_lit2 w ⟨[100, 50], 0, 2, true⟩ ⟨[115, 50], 2, 0, false⟩ (pcok (by decide) (by decide)) (pcok (by decide) (by decide))
theorem pl_lit (w : World) : Pcs (w.alloc (.cells #[.string ⟨#[100, 50]⟩, .int .i64 0, .int .i64 2, .bool false, .string ⟨#[115, 50]⟩, .int .i64 2, .int .i64 0, .bool false] 39 (0, 0))) (.slice (some ⟨w.heap.size, 0, none⟩) 2 2) pl :=
  pc_lit2 w ⟨[100, 50], 0, 2, false⟩ ⟨[115, 50], 2, 0, false⟩ (pcok (by decide) (by decide)) (pcok (by decide) (by decide))
theorem p3_lit (w : World) : Pcs (w.alloc (.cells #[.string ⟨#[100, 50]⟩, .int .i64 0, .int .i64 3, .bool true, .string ⟨#[115, 50]⟩, .int .i64 3, .int .i64 0, .bool false] 39 (0, 0))) (.slice (some ⟨w.heap.size, 0, none⟩) 2 2) p3 :=
  pc_lit2 w ⟨[100, 50], 0, 3, true⟩ ⟨[115, 50], 3, 0, false⟩ (pcok (by decide) (by decide)) (pcok (by decide) (by decide))
theorem walk (w : World) (ht : Tab w) : Calls Tryz.prog 4 #[] w fun e w' => e = .returned (.bool true) ∧ Nw w w' := by
  have HT := Lib.hid ht
  clear ht
  go_enter Tryz.func4, Tryz.ntmps4
  go_wp2_with fail
  refine (dHead_ok 2 (by omega) w).mono ?_
  rintro e w1 ⟨v1, rfl, b1, n1, -⟩
  obtain ⟨g1, o1, c1, rfl⟩ := own_some b1 (by rw [show (headB 2).length = 9 from lens.2.2.2.1]; decide)
  obtain ⟨hk0, hkk⟩ : hB.length = 9 ∧ headB 2 = hB := ⟨lens.2.2.2.1, rfl⟩
  rw [hkk, hk0] at b1
  rw [show (headB 2).length = 9 from hk0]
  have B1 := Lib.hid b1
  have N1 := Lib.hid n1
  clear b1 n1 hk0 hkk
  go_wp2_with fail
  refine (dHead_ok 0 (by omega) w1).mono ?_
  rintro e w2 ⟨v2, rfl, b2, n2, -⟩
  obtain ⟨a3, c3, rfl, -⟩ := b2.len
  rw [show headB ((0 : Nat)) = zB0 from rfl] at b2
  rw [show headB ((0 : Nat)) = zB0 from rfl]
  have B3 := Lib.hid (Vec.rd (f := Go.Proofs.YtkhcdbafcigeoaaGreatDoor.u8) b2)
  have B1 := Lib.hid (B1.out.nw n2)
  have N2 := Lib.hid (N1.out.trans n2)
  clear b2 n2 N1
  obtain ⟨W3, hmk, nw3, vc3⟩ := makeN w2 2 (by omega) .i64
  have hmk : (Instr.makeSlice 37 (.int .i64 2) (.int .i64 2)).run Tryz.prog w2 = .ok (.slice (some ⟨w2.heap.size, 0, none⟩) 2 2) W3 := hmk
  have E3 : Evs W3 (.slice (some ⟨w2.heap.size, 0, none⟩) 2 2) [Ev.zero, Ev.zero] := ⟨vc3.src, fun e he => by
    have : e = Ev.zero := by simpa using he
    rw [this]; exact zero_ok⟩
  have HB3 := Lib.hid (B3.out.nw nw3)
  have HB1 := Lib.hid (B1.out.nw nw3)
  have N3 := Lib.hid (N2.out.trans nw3)
  have PT := Lib.hid (dPack_two E3)
  clear E3 vc3 nw3 B3 B1 N2
  go_wp2_with fail
  refine PT.out.mono ?_
  rintro e w4 ⟨v4, rfl, b4, n4, -⟩
  obtain ⟨a5, c5, rfl, -⟩ := b4.len
  rw [show packB 0 [Ev.zero, Ev.zero] = kB from rfl] at b4
  rw [show packB 0 [Ev.zero, Ev.zero] = kB from rfl]
  have B5 := Lib.hid (Vec.rd (f := Go.Proofs.YtkhcdbafcigeoaaGreatDoor.u8) b4)
  have B3 := Lib.hid (HB3.out.nw n4)
  have B1 := Lib.hid (HB1.out.nw n4)
  have N4 := Lib.hid (N3.out.trans n4)
  clear b4 n4 PT HB3 HB1 N3 hmk
  have PP := Lib.hid (pp_lit w4)
  have NA := Lib.hid ((Nw.refl w4).alloc (.cells #[.string ⟨#[100, 50]⟩, .int .i64 0, .int .i64 2, .bool true, .string ⟨#[115, 50]⟩, .int .i64 2, .int .i64 0, .bool false] 39 (0, 0)))
  obtain ⟨gp, hgp⟩ : ∃ x, w4.heap.size = x := ⟨_, rfl⟩
  rw [hgp] at PP
  go_upto_region 5 with fail
  generalize w4.alloc (.cells #[.string ⟨#[100, 50]⟩, .int .i64 0, .int .i64 2, .bool true, .string ⟨#[115, 50]⟩, .int .i64 2, .int .i64 0, .bool false] 39 (0, 0)) = w5 at PP NA ⊢
  (try rw [hgp])
  clear hgp
  go_wp2_with fail
  refine (dManifest_ok PP.out rights.1).mono ?_
  rintro e w6 ⟨v6, rfl, b6, n6, -⟩
  obtain ⟨a8, c8, rfl, -⟩ := b6.len
  rw [show manifestB pp = mB from rfl] at b6
  rw [show manifestB pp = mB from rfl]
  have B8 := Lib.hid (Vec.rd (f := Go.Proofs.YtkhcdbafcigeoaaGreatDoor.u8) b6)
  have NB := Lib.hid (NA.out.trans n6)
  have QP := Lib.hid (PP.out.nw n6)
  clear b6 n6 PP NA
  have PL := Lib.hid (pl_lit w6)
  go_wp2_with fail
  refine (dManifest_ok PL.out rights.2.1).mono ?_
  rintro e w7 ⟨v7, rfl, b7, n7, -⟩
  obtain ⟨a10, c10, rfl, -⟩ := b7.len
  rw [show manifestB pl = lB from rfl] at b7
  rw [show manifestB pl = lB from rfl]
  have B10 := Lib.hid (Vec.rd (f := Go.Proofs.YtkhcdbafcigeoaaGreatDoor.u8) b7)
  have NC := Lib.hid (((Nw.refl w6).alloc _).trans n7)
  clear b7 n7 PL
  have P3 := Lib.hid (p3_lit w7)
  go_wp2_with fail
  refine (dManifest_ok P3.out rights.2.2).mono ?_
  rintro e w8 ⟨v8, rfl, b8, n8, -⟩
  obtain ⟨a12, c12, rfl, -⟩ := b8.len
  rw [show manifestB p3 = tB from rfl] at b8
  rw [show manifestB p3 = tB from rfl]
  have B12 := Lib.hid (Vec.rd (f := Go.Proofs.YtkhcdbafcigeoaaGreatDoor.u8) b8)
  have ND := Lib.hid (((Nw.refl w7).alloc _).trans n8)
  clear b8 n8 P3
  have NX := Lib.hid ((NB.out.trans NC.out).trans ND.out)
  have H1 := Lib.hid (B1.out.nw NX.out)
  have H3 := Lib.hid (B3.out.nw NX.out)
  have H5 := Lib.hid (B5.out.nw NX.out)
  have H8 := Lib.hid (B8.out.nw (NC.out.trans ND.out))
  have H10 := Lib.hid (B10.out.nw ND.out)
  have H12 := B12
  have HP := Lib.hid (QP.out.nw (NC.out.trans ND.out))
  have N8 := Lib.hid (N4.out.trans NX.out)
  clear B1 B3 B5 B8 B10 B12 QP N4 NB NC ND NX
  have hb9 : hB.length = 9 := lens.2.2.2.1
  have HB9 := Lib.hid hb9
  have H1b : Hid (Bs w8 (.slice (some ⟨g1, o1, none⟩) 9 c1) hB) := Lib.hid (Vec.rd (f := Go.Proofs.YtkhcdbafcigeoaaGreatDoor.u8) (by rw [hb9]; exact H1.out))
  clear hb9
  obtain ⟨i0, hi, hz0, hz1, hz2⟩ := info_parts infoU8
  have HI := Lib.hid hi
  have HZ0 := Lib.hid hz0
  have HZ1 := Lib.hid hz1
  have HZ2 := Lib.hid hz2
  clear hi hz0 hz1 hz2
  go_wp2_with fail
  refine (CopyBytes_ok H1b.out (by rw [HB9.out]; decide)).mono ?_
  rintro e w9 ⟨v9, rfl, q9, n9, f9⟩
  rw [HB9.out] at q9
  obtain ⟨a9, c9, rfl, -⟩ := q9.len
  have V9 := Lib.hid q9
  have N9 := Lib.hid n9
  have F9 := Lib.hid f9
  clear q9 n9 f9
  have s4 := src_lit w9 5 (0, 0) 1 3 3 [.int .u8 1, .int .u8 2, .int .u8 3] rfl (by omega) (by simp [maxLen])
  have X4 := Lib.hid s4
  clear s4
  go_wp2_with (at_builtin; refine wpList_append_vec rfl _ _ 23 rfl 5 i0 (.int .u8 0) 1 1 Tryz.underlying23 HI.out HZ0.out HZ1.out HZ2.out rfl (by decide) rfl rfl (V9.out.nw ((Nw.refl w9).alloc _)) X4.out ?c1 ?c2 ?c3 ?_)
  case c1 =>
    intro u hu
    simp only [List.mem_cons, List.not_mem_nil, or_false] at hu
    rcases hu with rfl | rfl | rfl <;> rfl
  case c2 => decide
  case c3 => decide
  intro v10 w10 q10 p10 f10
  obtain ⟨a10', c10', rfl, -⟩ := q10.len
  have hbl : (hB ++ [1, 2, 3]).length = 12 := by rw [List.length_append, HB9.out]; rfl
  have V10 : Hid (Bs w10 (.slice a10' (9 + 3) c10') (hB ++ [1, 2, 3])) := Lib.hid (Vec.rd (f := Go.Proofs.YtkhcdbafcigeoaaGreatDoor.u8) (by rw [hbl, List.map_append]; exact q10))
  have N10 : Hid (Nw w8 w10) := Lib.hid ((N9.out.trans ((Nw.refl w9).alloc _)).trans' p10 (fun k hk e => by have := F9.out k e; omega))
  have FG := files_lit5 w10 47 (s0 := manifestS) (s1 := d2S) (s2 := s2S) (s3 := nextS) (s4 := [121]) rfl (H8.out.nw N10.out) rfl (H5.out.nw N10.out) (show 9 + 3 = (hB ++ [1, 2, 3]).length by rw [hbl]) V10.out (rfl : 0 = ([] : List UInt8).length) (.inl ⟨none, rfl, rfl⟩) (rfl : 0 = ([] : List UInt8).length) (.inl ⟨none, rfl, rfl⟩)
  have MD := Lib.hid (made_ok (l := good) FG (by decide) (by decide +kernel) (by decide +kernel))
  have NF := (Nw.refl w10).alloc (.cells #[.string ⟨manifestS.toArray⟩, .slice a8 mB.length c8, .string ⟨d2S.toArray⟩, .slice a5 kB.length c5, .string ⟨s2S.toArray⟩, .slice a10' (9 + 3) c10', .string ⟨nextS.toArray⟩, .slice none 0 0, .string ⟨[121].toArray⟩, .slice none 0 0] 47 (0, 0))
  have NF := Lib.hid NF
  clear q10 p10 f10 FG V9 F9 X4 V10
  go_wp2_with fail
  refine MD.out.mono ?_
  rintro e w12 ⟨b, m, a, nn, c, la, dd, rfl, t12⟩
  generalize w10.alloc (.cells #[.string ⟨manifestS.toArray⟩, .slice a8 mB.length c8, .string ⟨d2S.toArray⟩, .slice a5 kB.length c5, .string ⟨s2S.toArray⟩, .slice a10' (9 + 3) c10', .string ⟨nextS.toArray⟩, .slice none 0 0, .string ⟨[121].toArray⟩, .slice none 0 0] 47 (0, 0)) = W0 at t12 NF
  have NW0 := Lib.hid (N8.out.trans (N10.out.trans NF.out))
  have HTW := Lib.hid (HT.out.nw NW0.out)
  have J1 := Lib.hid (H1b.out.nw (N10.out.trans NF.out))
  have J3 := Lib.hid (H3.out.nw (N10.out.trans NF.out))
  have J5 := Lib.hid (H5.out.nw (N10.out.trans NF.out))
  have J8 := Lib.hid (H8.out.nw (N10.out.trans NF.out))
  have J10 := Lib.hid (H10.out.nw (N10.out.trans NF.out))
  have J12 := Lib.hid (H12.out.nw (N10.out.trans NF.out))
  have JP := Lib.hid (HP.out.nw (N10.out.trans NF.out))
  clear H1 H1b H3 H5 H8 H10 H12 HP
  have NQ := Lib.hid ((N10.out.trans NF.out).trans (t12.base.trans ((Nw.refl w12).alloc (DB (.int .i64 m) (.slice a nn c) (.int .i64 la) (.bool dd)))))
  have HD := Lib.hid (t12.has.nw ((Nw.refl w12).alloc (DB (.int .i64 m) (.slice a nn c) (.int .i64 la) (.bool dd))))
  clear t12 MD N9 NF
  go_upto_region 9 with fail
  rw [show (Obj.cells #[.int .i64 m, .slice a nn c, .int .i64 la, .bool dd] 43) = DB (.int .i64 m) (.slice a nn c) (.int .i64 la) (.bool dd) from rfl]
  generalize w12.alloc (DB (.int .i64 m) (.slice a nn c) (.int .i64 la) (.bool dd)) = w13 at HD NQ ⊢
  clear NQ
  obtain ⟨es, ps, gd, x, hsc⟩ : ∃ es ps gd x, scanD unpackB (madeD good) = ⟨es, ps, gd, x⟩ := ⟨_, _, _, _, rfl⟩
  have e1 : es.length = 2 := by have := sc_es; unfold sc at this; rw [hsc] at this; exact this
  have e2 : ps = pp := by have := sc_ps; unfold sc at this; rw [hsc] at this; exact this
  have e3 : x = 0 := by have := sc_e; unfold sc at this; rw [hsc] at this; exact this
  subst e2 e3
  have SC := Lib.hid (Scan_ok HD.out (.inl den_unpack) hsc)
  have E1 := Lib.hid e1
  clear hsc e1
  go_wp2_with fail
  refine SC.out.mono ?_
  rintro z w14 ⟨v14, p14, rfl, o1, o2⟩
  obtain ⟨ea, ec, rfl, -⟩ := o1.1.len
  obtain ⟨pa, pc, rfl, -⟩ := o2.1.len
  rw [E1.out, show pp.length = 2 from rfl]
  have N14 := Lib.hid o1.2.1
  have P14 := Lib.hid o2.pcs
  have HD14 := Lib.hid (HD.out.nw o1.2.1)
  clear o1 o2 SC HD
  rw [show pp.length = 2 from rfl] at P14
  go_wp2_with fail
  refine (SamePieces_ok P14.out (JP.out.nw HD14.out.base)).mono ?_
  rintro z w15 ⟨rfl, n15⟩
  have HD15 := Lib.hid (HD14.out.nw n15)
  have N15 := Lib.hid (N14.out.trans n15)
  clear n15 HD14 N14 P14
  have LI := Lib.hid (HD15.out.list (l := (madeD good).list) rfl)
  go_wp2_with fail
  refine LI.out.mono ?_
  rintro z w16 ⟨v16, rfl, s16, n16, -⟩
  obtain ⟨la16, lc16, rfl, -⟩ := s16.len
  rw [sc_li]
  have HD16 := Lib.hid (HD15.out.nw n16)
  have N16 := Lib.hid (N15.out.trans n16)
  clear s16 n16 LI HD15 N15
  have OP := Lib.hid (Open_ok HD16.out HTW.out (.inl den_unpack) 64)
  go_wp2_with fail
  refine OP.out.mono ?_
  rintro z w17 ⟨k17, ⟨-, p, vo, rfl, hl17, vv17, -⟩ | ⟨h0, -⟩⟩
  case inr => exact absurd op_e h0
  have hl17 : HasL _ W0 w17 p b op.d op.L := hl17
  have vv17 : Vec 5 w17 vo op.es.length (op.es.flatMap evV) := vv17
  rw [op_es] at vv17
  obtain ⟨ao, co, rfl, -⟩ := vv17.len
  have L17 := Lib.hid hl17
  clear hl17 vv17 OP k17 HD16 N16
  go_wp2_with fail
  refine (L17.out.len op_n.1).mono ?_
  rintro z w18 ⟨rfl, rfl⟩
  go_wp2_with fail
  refine (L17.out.ack op_n.2).mono ?_
  rintro z w18 ⟨rfl, rfl⟩
  have HD17 := Lib.hid (L17.out.has.weak (Y := fun _ => False) (fun k hk => hk.elim))
  clear L17
  have SZ := Lib.hid (HD17.out.size s2S (k := 9) op_sz)
  go_wp2_with fail
  refine SZ.out.mono ?_
  rintro z w18 ⟨rfl, n18⟩
  have HD18 := Lib.hid (HD17.out.nw n18)
  clear n18 HD17 SZ
  have LI := Lib.hid (HD18.out.list op_li)
  go_wp2_with fail
  refine LI.out.mono ?_
  rintro z w19 ⟨v19, rfl, s19, n19, -⟩
  obtain ⟨la19, lc19, rfl, -⟩ := s19.len
  rw [show [d2S, manifestS, s2S].length = 3 from rfl] at s19
  rw [show [d2S, manifestS, s2S].length = 3 from rfl]
  have HD19 := Lib.hid (HD18.out.nw n19)
  clear n19 HD18 LI
  have s20 : Ss (w19.alloc (.cells #[.string ⟨#[100, 50]⟩, .string ⟨#[109, 97, 110, 105, 102, 101, 115, 116]⟩, .string ⟨#[115, 50]⟩] 9 (0, 0))) (.slice (some ⟨w19.heap.size, 0, none⟩) 3 3) [d2S, manifestS, s2S] := rd_lit (f := encStr) w19 9 (0, 0) [d2S, manifestS, s2S] _ 3 rfl (by decide) (by decide)
  have ST := Lib.hid (SameTexts_ok (s19.nw ((Nw.refl w19).alloc _)) s20)
  rw [show ([d2S, manifestS, s2S] == [d2S, manifestS, s2S]) = true by decide] at ST
  have HD20 := Lib.hid (HD19.out.nw ((Nw.refl w19).alloc (.cells #[.string ⟨#[100, 50]⟩, .string ⟨#[109, 97, 110, 105, 102, 101, 115, 116]⟩, .string ⟨#[115, 50]⟩] 9 (0, 0))))
  clear s19 s20 HD19
  go_wp2_with fail
  refine ST.out.mono ?_
  rintro z w21 ⟨rfl, n21⟩
  have HD21 := Lib.hid (HD20.out.nw n21)
  clear n21 HD20 ST
  go_upto_region 13 with fail
  have c9 : 9 ≤ c1 := by
    rcases J1.out with ⟨a', h1, h2⟩ | ⟨g, o, cap, h1, h2, -⟩
    · cases h1
    · injection h1 with _ _ h3
      rw [HB9.out] at h2
      omega
  refine r13 (c1 := c1) (Lib.hid HB9.out.symm) (Lib.hid (by rw [List.length_take, HB9.out]; rfl)) (Lib.hid (J1.out.nw HD21.out.base)) (Lib.hid (J3.out.nw HD21.out.base)) (Lib.hid (J5.out.nw HD21.out.base)) (Lib.hid (J8.out.nw HD21.out.base)) (Lib.hid (J10.out.nw HD21.out.base)) (Lib.hid (J12.out.nw HD21.out.base)) (Lib.hid ?hT5) (Lib.hid (.inl ⟨none, rfl, rfl⟩)) (Lib.hid ?hSL) (Lib.hid fun W hW i hi v hv => noLog_ok (HTW.out.nw (HD21.out.base.trans hW)) hv (bad_small i hi).1 (bad_small i hi).2.1 (bad_small i hi).2.2 (bad_at i hi).1 (bad_at i hi).2) (fun _ _ _ _ _ h => h) ?_
  case hT5 =>
    have h5 := Rd.take (J1.out.nw HD21.out.base) (k := 5) (by rw [HB9.out]; decide)
    have hc : c1 ≠ 0 := by omega
    simp only [sliced, hc, if_false, addr_add, Nat.add_zero] at h5
    first
      | exact h5
      | simpa [hc, Addr.add] using h5
  case hSL =>
    intro W
    have h1 : (5 : Int) ≤ (c1 : Int) := by omega
    go_simp
    (try simp [sliced])
  intro s151 s152 s153 s154 s155 s156 s157 s158 s159 s160 s161 s162 s163 s164 s165 s166 s167 s168 s169 s170 s171 s172 s173 s174 s175 s176 s177 s178 s179 s180 s181 s182 s183 s184 s185 s186 s187 s188 s189 s190 s191 s192 s193 s194 s195 s196 s197 s198 s199 s200 s201 s202 s203 s204 s205 s206 s207 s208 s209 s210 s211 s212 s213 s214 s215 s216 s217 s218 s219 s220 s221 s222 s223 s224 s225 s226 s227 s228 s229 s230 s231 s232 s233 s234 s235 s236 w22 n22
  have HD22 := Lib.hid (HD21.out.nw n22)
  clear n22 HD21 J1 J3 J5 J8 J10 J12 JP
  have OP := Open_ok HD22.out HTW.out (.inl den_unpack) 63
  rw [open_size _ 63 (by decide)] at OP
  have OP := Lib.hid OP
  go_wp2_with fail
  refine OP.out.mono ?_
  rintro z w23 ⟨-, ⟨h0, -⟩ | ⟨-, rfl, h23⟩⟩
  · exact absurd (show (2 : Int) = 0 from h0) (by decide)
  have HD23 : Hid (HasX (fun _ => False) W0 w23 b op.d) := Lib.hid h23
  clear h23 OP HD22
  have OP := Open_ok HD23.out HTW.out (.inl den_unpack) 16777217
  rw [open_size _ 16777217 (by decide)] at OP
  have OP := Lib.hid OP
  go_wp2_with fail
  refine OP.out.mono ?_
  rintro z w24 ⟨-, ⟨h0, -⟩ | ⟨-, rfl, h24⟩⟩
  · exact absurd (show (2 : Int) = 0 from h0) (by decide)
  have HD24 : Hid (HasX (fun _ => False) W0 w24 b op.d) := Lib.hid h24
  clear h24 OP HD23
  go_wp2_with fail
  refine (scan_nil w24).mono ?_
  rintro z w25 ⟨rfl, rfl⟩
  have AR := Lib.hid (HD24.out.arm 0 (by decide) ar_eq)
  go_wp2_with fail
  refine AR.out.mono ?_
  rintro z w26 ⟨rfl, h26, -⟩
  have HD26 := Lib.hid h26
  clear h26 AR HD24
  obtain ⟨sx, hsx⟩ : ∃ x, ar.sync s2S = (dn, x) := ⟨_, rfl⟩
  have SY := Lib.hid (HD26.out.sync s2S hsx)
  clear hsx
  go_wp2_with fail
  refine SY.out.mono ?_
  rintro z w27 ⟨rfl, h27, -⟩
  have HD27 := Lib.hid h27
  clear h27 SY HD26
  obtain ⟨es, ps, gd, x, hsc⟩ : ∃ es ps gd x, scanD unpackB dn = ⟨es, ps, gd, x⟩ := ⟨_, _, _, _, rfl⟩
  have e3 : x = 15 := by have := dn_sc.1; rw [hsc] at this; exact this
  subst e3
  have SC := Lib.hid (Scan_ok HD27.out (.inl den_unpack) hsc)
  clear hsc
  go_wp2_with fail
  refine SC.out.mono ?_
  rintro z w28 ⟨v28, p28, rfl, o1, o2⟩
  obtain ⟨ea, ec, rfl, -⟩ := o1.1.len
  obtain ⟨pa, pc, rfl, -⟩ := o2.1.len
  have HD28 := Lib.hid (HD27.out.nw o1.2.1)
  clear o1 o2 SC HD27
  obtain ⟨d9, es9, ps9, x9, hme⟩ : ∃ d' es ps x, mendD unpackB dn = ⟨d', es, ps, x⟩ := ⟨_, _, _, _, rfl⟩
  have e4 : x9 = 15 := by have := dn_me.1; rw [hme] at this; exact this
  subst e4
  have ME := Lib.hid (Mend_ok HD28.out (.inl den_unpack) hme)
  clear hme
  go_wp2_with fail
  refine ME.out.mono ?_
  rintro z w29 ⟨v29, p29, rfl, mt⟩
  obtain ⟨ea9, ec9, rfl, -⟩ := mt.evs.len
  obtain ⟨pa9, pc9, rfl, -⟩ := mt.pcs.len
  have HN29 := Lib.hid (NW0.out.trans mt.disk.base)
  clear mt ME HD28
  have AW := Lib.hid (awake6_ok w29 (HT.out.nw HN29.out))
  go_wp2_with fail
  refine AW.out.mono ?_
  rintro z w30 ⟨rfl, n30⟩
  go_wp2
  go_ret
  exact ⟨rfl, HN29.out.trans n30⟩
end Go.Proofs.YtkhcdbafcigeoaaGreatDoor.RecoverNumbers
