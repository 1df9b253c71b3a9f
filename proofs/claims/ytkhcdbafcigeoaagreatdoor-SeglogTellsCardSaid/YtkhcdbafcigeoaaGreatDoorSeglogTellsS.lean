/-
  Texts merged by a program of this claim's: SeglogTells.
-/
import Derived.Test.YtkhcdbafcigeoaaGreatDoorM20
import Derived.Test.YtkhcdbafcigeoaaGreatDoorM13
/-
  amanuensislaw05.SeglogTells: for any pieces and bytes Right, Manifest and Listed answer as the document defines.
-/
namespace Go.Proofs.YtkhcdbafcigeoaaGreatDoor.SeglogTells
open Go Go.RowKit Go.Sort
set_option maxRecDepth 100000
set_option maxHeartbeats 3200000
theorem SmallPieces_ok {w : World} {v : Value} {l : List Pc} (hv : Pcs w v l) :
    Calls Tryz.prog 7 #[v] w fun e w' => ∃ x, e = .returned (.bool x) ∧ w = w' := by
  obtain ⟨a, cap, rfl, hc, hm, hel⟩ := hv.elem
  have HE := Lib.hid hel
  obtain ⟨n, hn⟩ : ∃ n, l.length = n := ⟨_, rfl⟩
  have HN := Lib.hid hn
  rw [hn] at hc ⊢
  clear hel hv hn
  by_cases h2 : 120 < n
  · have q : decide ((120 : Int) < (n : Int)) = true := by simp; omega
    go_enter Tryz.func7, Tryz.ntmps7
    go_wp2
    go_ret
    exact ⟨_, rfl, rfl⟩
  have q : decide ((120 : Int) < (n : Int)) = false := by simp; omega
  go_enter Tryz.func7, Tryz.ntmps7
  go_wp2
  go_loopw [3] (fun iv wr => ∃ k : Nat, k ≤ n ∧ iv = .int .i64 k ∧ w = wr) (fun iv _ => n - (intOf iv).toNat)
  case atStart => exact ⟨0, by omega, rfl, rfl⟩
  case round =>
    obtain ⟨k, hk, rfl, rfl⟩ := hrel
    by_cases hkn : k < n
    · obtain ⟨g, o, rfl, hg, c0, -, -, -⟩ := HE.out k (by rw [HN.out]; exact hkn)
      obtain ⟨nm, hnm⟩ : ∃ x, (l[k]'(by rw [HN.out]; exact hkn)).name = x := ⟨_, rfl⟩
      rw [hnm] at c0
      obtain ⟨nl, hnl⟩ : ∃ x, nm.length = x := ⟨_, rfl⟩
      have HNL := Lib.hid hnl
      have q1 : decide ((k : Int) < (n : Int)) = true := by simp; omega
      have hwk : IntKind.i64.wrap ((k : Int) + 1) = ((k + 1 : Nat) : Int) := by rw [← Int.natCast_one, ← Int.natCast_add]; exact IntWalk.i64_in _ (by omega)
      clear hnm
      by_cases h3 : 100 < nl
      · have q2 : decide ((100 : Int) < (nl : Int)) = true := by simp; omega
        go_wp2
        go_ret
        exact ⟨_, rfl, rfl⟩
      · have q2 : decide ((100 : Int) < (nl : Int)) = false := by simp; omega
        go_wp2
        go_roundw
        case rel => exact ⟨k + 1, by omega, by first | rfl | (simp; done) | rw [hwk], by trivial⟩
        case measure => simp only [intOf]; omega
    · have q1 : decide ((k : Int) < (n : Int)) = false := by simp; omega
      go_wp2
      go_ret
      exact ⟨_, rfl, rfl⟩
/-- What the two Manifests answer. -/
theorem man (prog5 : Bool) {w : World} {v : Value} {l : List Pc} (hv : Pcs w v l) : ∃ (r : List UInt8) (x : Int), ((rightL l = true ∧ r = manifestB l ∧ x = 0) ∨ (rightL l = false ∧ r = [] ∧ x = 14)) ∧
    Calls Tryz.prog (if prog5 then 10 else 11) #[v] w fun e w' => ∃ a c, e = .returned (.tuple #[.slice a r.length c, .int .i64 x]) ∧ Bs w' (.slice a r.length c) r ∧ Nw w w' := by
  cases hr : rightL l
  case false =>
    refine ⟨[], 14, .inr ⟨rfl, rfl, rfl⟩, ?_⟩
    cases prog5
    case true =>
      refine Calls.mono (Manifest_no hv hr) ?_
      rintro e w' ⟨rfl, hn⟩
      exact ⟨none, 0, rfl, .inl ⟨none, rfl, rfl⟩, hn⟩
    case false =>
      refine Calls.mono (dManifest_no hv hr) ?_
      rintro e w' ⟨rfl, hn⟩
      exact ⟨none, 0, rfl, .inl ⟨none, rfl, rfl⟩, hn⟩
  case true =>
    refine ⟨manifestB l, 0, .inl ⟨rfl, rfl, rfl⟩, ?_⟩
    have key : ∀ e w', NewE w (manifestB l) e w' → ∃ a c, e = .returned (.tuple #[.slice a (manifestB l).length c, .int .i64 0]) ∧ Bs w' (.slice a (manifestB l).length c) (manifestB l) ∧ Nw w w' := by
      rintro e w' ⟨v', rfl, h2, h3, -⟩
      obtain ⟨a, c, rfl, -⟩ := h2.len
      exact ⟨a, c, rfl, h2.rd, h3⟩
    cases prog5
    case true => exact Calls.mono (Manifest_ok hv hr) key
    case false => exact Calls.mono (dManifest_ok hv hr) key
theorem walk (w : World) (ht : Tab w) (v0 v1 : Value) (l : List Pc) (b : List UInt8) (h0 : Pcs w v0 l) (h1 : Bs w v1 b) :
    Calls Tryz.prog 3 #[v0, v1] w fun e w' => e = .returned (.bool true) ∧ Nw w w' := by
  obtain ⟨la, lc, rfl, -⟩ := h0.elem
  obtain ⟨ba, bc, rfl, -⟩ := h1.len
  have HT := Lib.hid ht
  have AW := Lib.hid (fun w ht => awake_ok w ht)
  have P0 := Lib.hid h0
  have B0 := Lib.hid h1
  have SP := Lib.hid (SmallPieces_ok h0)
  obtain ⟨n, hn⟩ : ∃ n, l.length = n := ⟨_, rfl⟩
  obtain ⟨bl, hbl⟩ : ∃ n, b.length = n := ⟨_, rfl⟩
  have HBL := Lib.hid hbl
  rw [hn] at P0 SP ⊢
  rw [hbl] at B0 ⊢
  clear ht h0 h1 hn hbl
  go_enter Tryz.func3, Tryz.ntmps3
  go_upto_region 1 with fail
  go_cut [23] (fun t wx => (∃ x : Bool, t = .bool (!x || decide (3000 < bl))) ∧ w = wx)
  case first =>
    go_wp2_with fail
    refine SP.out.mono ?_
    rintro e w1 ⟨x, rfl, rfl⟩
    cases x
    case false =>
      go_wp2_with fail
      go_meet
      case rel => exact ⟨⟨false, rfl⟩, rfl⟩
    case true =>
      have hd : ((3000 : Int) < (bl : Int)) ↔ 3000 < bl := by omega
      go_wp2_with fail
      go_meet
      case rel => exact ⟨⟨true, by simp⟩, rfl⟩
  case rest =>
    obtain ⟨⟨x, rfl⟩, rfl⟩ := hcut
    cases hb : (!x || decide (3000 < bl))
    case true =>
      clear hb
      go_wp2_with fail
      refine (AW.out _ HT.out).mono ?_
      rintro e w2 ⟨rfl, n2⟩
      have N2 := Lib.hid n2
      clear n2
      go_wp2_with fail
      go_ret
      exact ⟨rfl, N2.out⟩
    case false =>
      have hbl : bl ≤ 3000 := by
        rw [Bool.or_eq_false_iff] at hb
        have := hb.2
        simp at this
        omega
      clear hb
      have C1 := Lib.hid (CopyBytes_ok B0.out (by rw [HBL.out]; omega))
      go_wp2_with fail
      refine C1.out.mono ?_
      rintro e w2 ⟨v2, rfl, q1, n2, -⟩
      obtain ⟨a2, c2, rfl, -⟩ := q1.len
      have b2 := q1.rd
      rw [HBL.out] at b2 ⊢
      have B2 := Lib.hid (show Bs w2 _ b from b2)
      have N2 := Lib.hid n2
      clear q1 n2 C1 b2
      obtain ⟨r3, x3, e3, C3⟩ := man true (P0.out.nw N2.out)
      obtain ⟨r4, x4, e4, -⟩ := man false (P0.out.nw N2.out)
      have h34 : r4 = r3 ∧ x4 = x3 := by
        rcases e3 with ⟨h1, rfl, rfl⟩ | ⟨h1, rfl, rfl⟩ <;> rcases e4 with ⟨h2, rfl, rfl⟩ | ⟨h2, rfl, rfl⟩
        · exact ⟨rfl, rfl⟩
        · rw [h1] at h2; cases h2
        · rw [h1] at h2; cases h2
        · exact ⟨rfl, rfl⟩
      have CC : Hid (∀ W, Nw w W → Calls Tryz.prog 11 #[.slice la n lc] W fun e w' => ∃ a c, e = .returned (.tuple #[.slice a r3.length c, .int .i64 x3]) ∧ Bs w' (.slice a r3.length c) r3 ∧ Nw W w') := Lib.hid (fun W hW => by
        obtain ⟨r5, x5, e5, C5⟩ := man false (P0.out.nw hW)
        have h35 : r5 = r3 ∧ x5 = x3 := by
          rcases e3 with ⟨h1, rfl, rfl⟩ | ⟨h1, rfl, rfl⟩ <;> rcases e5 with ⟨h2, rfl, rfl⟩ | ⟨h2, rfl, rfl⟩
          · exact ⟨rfl, rfl⟩
          · rw [h1] at h2; cases h2
          · rw [h1] at h2; cases h2
          · exact ⟨rfl, rfl⟩
        obtain ⟨rfl, rfl⟩ := h35
        exact C5)
      have E3 := Lib.hid e3
      have C3 := Lib.hid C3
      clear e3 e4 h34
      go_wp2_with fail
      refine Calls.mono (C3.out : Calls Tryz.prog 10 _ _ _) ?_
      rintro e w3 ⟨a3, c3, rfl, b3, n3⟩
      obtain ⟨n3l, hn3⟩ : ∃ x, r3.length = x := ⟨_, rfl⟩
      rw [hn3] at b3 CC ⊢
      have HN3 := Lib.hid hn3
      have B3 := Lib.hid b3
      have N3 := Lib.hid (N2.out.trans n3)
      have B23 := Lib.hid (B2.out.nw n3)
      clear b3 n3 hn3 C3 B2 N2
      go_wp2_with fail
      refine (CC.out w3 N3.out).mono ?_
      rintro e w4 ⟨a4, c4, rfl, b4, n4⟩
      have B4 := Lib.hid b4
      have B34 := Lib.hid (B3.out.nw n4)
      have N4 := Lib.hid (N3.out.trans n4)
      have B24 := Lib.hid (B23.out.nw n4)
      clear b4 n4 CC B3 N3 B23
      obtain ⟨⟨U, g⟩, hU⟩ : ∃ y, listedB b = y := ⟨_, rfl⟩
      have C5 := Lib.hid (Listed_ok B24.out (by rw [HBL.out]; omega) hU)
      go_wp2_with fail
      refine C5.out.mono ?_
      rintro e w5 ⟨v5, rfl, o5⟩
      obtain ⟨a5, c5, rfl, -⟩ := o5.pcs.elem
      obtain ⟨ul, hul⟩ : ∃ x, U.length = x := ⟨_, rfl⟩
      rw [hul] at o5 ⊢
      have N5 := Lib.hid (N4.out.trans o5.2.2.1)
      have B35 := Lib.hid (B34.out.nw o5.2.2.1)
      have B45 := Lib.hid (B4.out.nw o5.2.2.1)
      have B25 := Lib.hid (B24.out.nw o5.2.2.1)
      have O5 := Lib.hid o5
      have C6 := Lib.hid (dListed_ok (B0.out.nw N5.out) (by rw [HBL.out]; omega) hU)
      clear o5 C5 B34 B4 B24 hU N4
      go_wp2_with fail
      refine C6.out.mono ?_
      rintro e w6 ⟨v6, rfl, o6⟩
      obtain ⟨a6, c6, rfl, -⟩ := o6.pcs.elem
      rw [hul] at o6 ⊢
      have N6 := Lib.hid (N5.out.trans o6.2.2.1)
      have B36 := Lib.hid (B35.out.nw o6.2.2.1)
      have B46 := Lib.hid (B45.out.nw o6.2.2.1)
      have B26 := Lib.hid (B25.out.nw o6.2.2.1)
      have O56 := Lib.hid (O5.out.nw o6.2.2.1)
      have O6 := Lib.hid o6
      clear o6 C6 B35 B45 B25 O5 N5 hul
      rcases E3.out with ⟨hr, hr3, rfl⟩ | ⟨hr, hr3, rfl⟩
      · have h6 : r3.length ≤ 90000000 := by rw [hr3]; have := manifestB_len hr; omega
        have C7 := Lib.hid (Listed_ok B36.out h6 (r := l) (e := 0) (by rw [hr3]; exact listedB_at hr))
        clear hr hr3 h6 E3
        go_wp2_with fail
        refine C7.out.mono ?_
        rintro e w7 ⟨v7, rfl, o7⟩
        obtain ⟨a7, c7, rfl, -⟩ := o7.pcs.elem
        have N7 := Lib.hid (N6.out.trans o7.2.2.1)
        have B37 := Lib.hid (B36.out.nw o7.2.2.1)
        have B47 := Lib.hid (B46.out.nw o7.2.2.1)
        have B27 := Lib.hid (B26.out.nw o7.2.2.1)
        have O57 := Lib.hid (O56.out.nw o7.2.2.1)
        have O67 := Lib.hid (O6.out.nw o7.2.2.1)
        have SQ := Lib.hid (SamePieces_ok o7.pcs (P0.out.nw N7.out))
        clear o7 C7 B36 B46 B26 O56 O6 N6
        go_wp2_with fail
        refine SQ.out.mono ?_
        rintro e w8 ⟨rfl, n8⟩
        have N8 := Lib.hid (N7.out.trans n8)
        have B38 := Lib.hid (B37.out.nw n8)
        have B48 := Lib.hid (B47.out.nw n8)
        have B28 := Lib.hid (B27.out.nw n8)
        have O58 := Lib.hid (O57.out.nw n8)
        have O68 := Lib.hid (O67.out.nw n8)
        clear n8 SQ B37 B47 B27 O57 O67 N7
        go_wp2_with fail
        refine (Right_ok (P0.out.nw N8.out)).mono ?_
        rintro e t1 ⟨rfl, m1⟩
        have M1 := Lib.hid (N8.out.trans m1)
        have R1 := Lib.hid m1
        clear m1
        go_wp2_with fail
        refine (dRight_ok (P0.out.nw M1.out)).mono ?_
        rintro e t2 ⟨rfl, m2⟩
        have M2 := Lib.hid (M1.out.trans m2)
        have R2 := Lib.hid (R1.out.trans m2)
        clear m2 M1 R1
        have SB := Lib.hid (SameBytes_ok (B38.out.nw R2.out) (B48.out.nw R2.out))
        rw [beq_self_eq_true] at SB
        have QQ : (rightL l == rightL l) = true := beq_self_eq_true _
        go_wp2_with fail
        refine SB.out.mono ?_
        rintro e t3 ⟨rfl, rfl⟩
        have SP := Lib.hid (SamePieces_ok (O58.out.pcs.nw R2.out) (O68.out.pcs.nw R2.out))
        clear SB
        go_wp2_with fail
        refine SP.out.mono ?_
        rintro e t4 ⟨rfl, m4⟩
        have M4 := Lib.hid (M2.out.trans m4)
        have SB := Lib.hid (SameBytes_ok (B28.out.nw (R2.out.trans m4)) (B0.out.nw (M2.out.trans m4)))
        rw [beq_self_eq_true] at SB
        have QG : (g == g) = true := beq_self_eq_true _
        clear m4 SP
        go_wp2_with fail
        refine SB.out.mono ?_
        rintro e t5 ⟨rfl, rfl⟩
        clear SB
        go_wp2_with fail
        refine (AW.out _ (HT.out.nw M4.out)).mono ?_
        rintro e t6 ⟨rfl, m6⟩
        have M6 := Lib.hid (M4.out.trans m6)
        clear m6
        go_wp2_with fail
        go_ret
        exact ⟨rfl, M6.out⟩
      · clear hr hr3 E3
        go_wp2_with fail
        refine (Right_ok (P0.out.nw N6.out)).mono ?_
        rintro e t1 ⟨rfl, m1⟩
        have M1 := Lib.hid (N6.out.trans m1)
        have R1 := Lib.hid m1
        clear m1
        go_wp2_with fail
        refine (dRight_ok (P0.out.nw M1.out)).mono ?_
        rintro e t2 ⟨rfl, m2⟩
        have M2 := Lib.hid (M1.out.trans m2)
        have R2 := Lib.hid (R1.out.trans m2)
        clear m2 M1 R1
        have SB := Lib.hid (SameBytes_ok (B36.out.nw R2.out) (B46.out.nw R2.out))
        rw [beq_self_eq_true] at SB
        have QQ : (rightL l == rightL l) = true := beq_self_eq_true _
        go_wp2_with fail
        refine SB.out.mono ?_
        rintro e t3 ⟨rfl, rfl⟩
        have SP := Lib.hid (SamePieces_ok (O56.out.pcs.nw R2.out) (O6.out.pcs.nw R2.out))
        clear SB
        go_wp2_with fail
        refine SP.out.mono ?_
        rintro e t4 ⟨rfl, m4⟩
        have M4 := Lib.hid (M2.out.trans m4)
        have SB := Lib.hid (SameBytes_ok (B26.out.nw (R2.out.trans m4)) (B0.out.nw (M2.out.trans m4)))
        rw [beq_self_eq_true] at SB
        have QG : (g == g) = true := beq_self_eq_true _
        clear m4 SP
        go_wp2_with fail
        refine SB.out.mono ?_
        rintro e t5 ⟨rfl, rfl⟩
        clear SB
        go_wp2_with fail
        refine (AW.out _ (HT.out.nw M4.out)).mono ?_
        rintro e t6 ⟨rfl, m6⟩
        have M6 := Lib.hid (M4.out.trans m6)
        clear m6
        go_wp2_with fail
        go_ret
        exact ⟨rfl, M6.out⟩
end Go.Proofs.YtkhcdbafcigeoaaGreatDoor.SeglogTells
