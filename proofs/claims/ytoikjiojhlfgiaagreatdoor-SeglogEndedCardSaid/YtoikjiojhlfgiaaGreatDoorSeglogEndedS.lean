/-
  Texts merged by a program of this claim's: SeglogEnded.
-/
import Derived.Test.YtoikjiojhlfgiaaGreatDoorM22
import Derived.Test.YtoikjiojhlfgiaaGreatDoorM21
/-
  amanuensislaw05.SeglogEnded: a log that is over stays over: each call tells ErrEnded, and changes nothing.
-/
namespace Go.Proofs.YtoikjiojhlfgiaaGreatDoor.SeglogEnded
open Go Go.RowKit Go.Sort
set_option maxRecDepth 100000
set_option maxHeartbeats 1600000

theorem walk (w : World) (ht : Tab w) (v0 v3 : Value) (fs : List (List Ev)) (mo ar : Int) (es : List Ev) (h0 : RdK 1 (isEvs w) w v0 fs) (hm : 0 ≤ mo ∧ mo ≤ 65535) (ha : 0 ≤ ar ∧ ar ≤ 65535) (h3 : Evs w v3 es) :
    Calls Tryz.prog 5 #[v0, .int .u16 mo, .int .u16 ar, v3] w fun e w' => e = .returned (.bool true) ∧ Nw w w' := by
  have HT := Lib.hid ht
  have HF := Lib.hid h0
  obtain ⟨a0, c0, rfl, -⟩ := h0.len
  obtain ⟨a3, c3, rfl, hl3, -⟩ := h3.elem
  have h63 : es.length ≤ 9223372036854775807 := by unfold maxLen at hl3; omega
  clear ht h0 h3 hl3
  obtain ⟨nf, hnf⟩ : ∃ n, fs.length = n := ⟨_, rfl⟩
  rw [hnf] at HF ⊢
  have HNF := Lib.hid hnf
  clear hnf
  generalize es.length = ne at h63 ⊢
  have hm0 := hm.1
  have hm1 := hm.2
  have ha0 := ha.1
  have ha1 := ha.2
  have hwr : IntKind.i64.wrap (100 + mo % 400) = 100 + mo % 400 := IntWalk.i64_in _ (by omega)
  have hp0 : 0 ≤ 100 + mo % 400 := by omega
  have hp1 : 100 + mo % 400 ≤ 16777216 := by omega
  have hr1 : 0 ≤ ar % 200 ∧ ar % 200 ≤ 9223372036854775807 := by omega
  obtain ⟨F0, cr, -⟩ := create_calm' (100 + mo % 400) (by omega) (size := 64) (by omega) (by omega)
  have CR := Lib.hid cr
  have HP := Lib.hid (And.intro hp0 hp1)
  have HR1 := Lib.hid hr1
  generalize ({ newDsk (100 + mo % 400) with files := F0 } : Dsk) = d0 at CR
  clear cr hm ha hp0 hp1 hr1
  go_enter Tryz.func5, Tryz.ntmps5
  go_wp2_with fail
  refine (HasX.new (100 + mo % 400) w HP.out.1 HP.out.2).mono ?_
  rintro e w1 ⟨b, rfl, H1⟩
  have H1 := Lib.hid H1
  have HC := Lib.hid (Create_ok H1.out HT.out 64)
  have hcr := CR.out
  rw [hcr] at HC
  clear hcr
  go_wp2_with fail
  refine HC.out.mono ?_
  rintro e w3 ⟨-, ⟨-, p, rfl, L3⟩ | ⟨hx, -⟩⟩
  case inr => exact absurd rfl hx
  have L3 := Lib.hid L3
  clear HC H1 CR
  by_cases hq : 30 < ne
  case pos =>
    have hq1 : decide ((30 : Int) < (ne : Int)) = true := by simp; omega
    go_wp2_with fail
    refine (awake_ok w3 (HT.out.nw L3.out.base)).mono ?_
    rintro e w6 ⟨rfl, n6⟩
    have N6 := Lib.hid (L3.out.base.trans n6)
    clear n6
    go_wp2
    go_ret
    exact ⟨rfl, N6.out⟩
  have hq1 : decide ((30 : Int) < (ne : Int)) = false := by simp; omega
  go_wp2_with fail
  refine (L3.out.armed (ar % 200) HR1.out.2).mono ?_
  rintro e w4 ⟨rfl, L4, -⟩
  have L4 := Lib.hid L4
  clear L3 hwr HP HR1
  generalize d0.armed (ar % 200) = d1 at L4
  go_upto_block 0 with fail
  go_cut [] (fun wx => ∃ d L, Bk 64 60 L ∧ HasL (fun _ => False) w wx p b d L)
  case first =>
    go_wp2
    go_loopw [13] (fun i wr => ∃ (k c : Nat) (d : Dsk) (L : Lg), k ≤ 60 ∧ c ≤ k ∧ i = .int .i64 k ∧ Bk 64 c L ∧ HasL (fun _ => False) w wr p b d L) (fun i _ => 60 - (intOf i).toNat)
    case atStart => exact ⟨0, 0, d1, _, by omega, by omega, rfl, Bk.new, L4.out⟩
    case round =>
      obtain ⟨k, c, d, L, hk, hck, rfl, hbk, hL⟩ := hrel
      have BK := Lib.hid hbk
      have HL := Lib.hid hL
      clear hbk hL
      by_cases h1 : k < nf
      case neg =>
        go_wp2_with fail
        go_meet
        case rel => exact ⟨d, L, BK.out.mono (by omega), HL.out⟩
      by_cases h2 : k < 60
      case neg =>
        go_wp2_with fail
        go_meet
        case rel => exact ⟨d, L, BK.out.mono (by omega), HL.out⟩
      cases hov : L.over
      case true =>
        have OV := Lib.hid (HL.out.over hov)
        clear hov
        go_wp2_with fail
        refine OV.out.mono ?_
        rintro e w5 ⟨rfl, rfl⟩
        go_wp2_with fail
        go_meet
        case rel => exact ⟨d, L, BK.out.mono (by omega), HL.out⟩
      have OV := Lib.hid (HL.out.over hov)
      have HOV := Lib.hid hov
      clear hov
      go_wp2_with fail
      refine OV.out.mono ?_
      rintro e w5 ⟨rfl, rfl⟩
      obtain ⟨g, o, ea, ec, rfl, hg, hc0, hev⟩ := frame_at HF.out HNF.out h1
      have hc1 := HL.out.base.cell hc0
      have EV := Lib.hid (hev.nw HL.out.base)
      have hgw : g < wr.heap.size := Nat.lt_of_lt_of_le hg HL.out.base.size
      clear hc0 hev hg OV
      generalize fs[k]'_ = fr at hc1 EV
      obtain ⟨n, hn⟩ : ∃ n, fr.length = n := ⟨_, rfl⟩
      have HN := Lib.hid hn
      rw [hn] at hc1 EV
      clear hn
      by_cases hz : n = 0
      case pos =>
        subst hz
        go_wp2_with fail
        go_roundw
        case rel => exact ⟨k + 1, c, d, L, by omega, by omega, by go_num, BK.out, HL.out⟩
        case measure => simp [intOf]; omega
      have hz1 : decide (0 < n) = true := by simp; omega
      by_cases h30 : n ≤ 30
      case neg =>
        have hz2 : decide ((n : Int) ≤ (30 : Int)) = false := by simp; omega
        go_wp2_with fail
        go_roundw
        case rel => exact ⟨k + 1, c, d, L, by omega, by omega, by go_num, BK.out, HL.out⟩
        case measure => simp [intOf]; omega
      have hz2 : decide ((n : Int) ≤ (30 : Int)) = true := by simp; omega
      have C := Bk.call HL.out BK.out (by unfold in64; omega) (by omega) (by have := BK.out.len; omega) HT.out EV.out
      have hba := BK.out.add (d := d) (es := fr) (by omega) HOV.out (by rw [HN.out]; omega) (by rw [HN.out]; omega)
      obtain ⟨r, hr⟩ : ∃ r, L.add d fr = r := ⟨_, rfl⟩
      rw [hr] at C hba
      obtain ⟨d', L', x⟩ := r
      have C := Lib.hid C
      have BA := Lib.hid hba
      clear hr hba HN HOV BK
      go_wp2_with fail
      refine C.out.mono ?_
      rintro e w5 ⟨rfl, L5, -⟩
      have L5 := Lib.hid L5
      clear C EV hc1
      by_cases hx : x = 0
      case pos =>
        subst hx
        go_wp2_with fail
        refine (L5.out.over (x := false) (by rw [BA.out.2]; rfl)).mono ?_
        rintro e w6 ⟨rfl, rfl⟩
        go_wp2_with fail
        go_roundw
        case rel => exact ⟨k + 1, c + 1, d', L', by omega, by omega, by go_num, BA.out.1, L5.out⟩
        case measure => simp [intOf]; omega
      case neg =>
        have hx1 : (x != 0) = true := by simpa using hx
        go_wp2_with fail
        refine (L5.out.over (x := true) (by rw [BA.out.2]; simpa using hx)).mono ?_
        rintro e w6 ⟨rfl, rfl⟩
        go_wp2_with fail
        go_roundw
        case rel => exact ⟨k + 1, c + 1, d', L', by omega, by omega, by go_num, BA.out.1, L5.out⟩
        case measure => simp [intOf]; omega
  case rest =>
    obtain ⟨d, L, hbk, hL⟩ := hcut
    have BK := Lib.hid hbk
    have HL := Lib.hid hL
    clear hbk hL
    cases hov : L.over
    case false =>
      have OV := Lib.hid (HL.out.over hov)
      clear hov
      go_wp2_with fail
      refine OV.out.mono ?_
      rintro e w5 ⟨rfl, rfl⟩
      go_wp2_with fail
      refine (awake_ok wc (HT.out.nw HL.out.base)).mono ?_
      rintro e w6 ⟨rfl, n6⟩
      have N6 := Lib.hid (HL.out.base.trans n6)
      clear n6
      go_wp2
      go_ret
      exact ⟨rfl, N6.out⟩
    have HOV := Lib.hid hov
    clear hov
    have hll := BK.out.len
    go_wp2_with fail
    refine (HL.out.over HOV.out).mono ?_
    rintro e w5 ⟨rfl, rfl⟩
    obtain ⟨us, hus⟩ : ∃ n, usedF d.files = n := ⟨_, rfl⟩
    obtain ⟨nl, hnl⟩ : ∃ l, d.list = l := ⟨_, rfl⟩
    obtain ⟨ln, hln⟩ : ∃ n, L.n = n := ⟨_, rfl⟩
    obtain ⟨ak, hak⟩ : ∃ n, L.acked = n := ⟨_, rfl⟩
    obtain ⟨ps, hps⟩ : ∃ n, L.l = n := ⟨_, rfl⟩
    rw [hps] at hll
    have HUS := Lib.hid hus
    have HNL := Lib.hid hnl
    have HLN := Lib.hid hln
    have HAK := Lib.hid hak
    have HPS := Lib.hid hps
    have HPO : Hid (∀ q ∈ ps, q.Ok) := Lib.hid (by rw [← hps]; exact HL.out.pok)
    clear hus hnl hln hak hps
    go_wp2_with fail
    refine (HL.out.has.used HUS.out).mono ?_
    rintro e w6 ⟨rfl, n6⟩
    have L6 := Lib.hid (HL.out.nw n6)
    clear n6
    go_wp2_with fail
    refine (L6.out.has.list HNL.out).mono ?_
    rintro e w7 ⟨v7, rfl, s7, n7, -⟩
    have L7 := Lib.hid (L6.out.nw n7)
    obtain ⟨xa7, xc7, rfl, -⟩ := s7.len
    have S7 := Lib.hid s7
    clear n7 s7 L6
    go_wp2_with fail
    refine (L7.out.len HLN.out).mono ?_
    rintro e w8 ⟨rfl, rfl⟩
    go_wp2_with fail
    refine (L7.out.ack HAK.out).mono ?_
    rintro e w8 ⟨rfl, rfl⟩
    go_wp2_with fail
    refine (L7.out.pieces HPS.out (by omega)).mono ?_
    rintro e w8 ⟨v8, rfl, q1, q2, -⟩
    have P8 := Lib.hid (q1.pcs HPO.out)
    obtain ⟨xa8, xc8, rfl, -⟩ := q1.len
    have L8 := Lib.hid (L7.out.nw q2)
    have S8 := Lib.hid (S7.out.nw q2)
    clear q1 q2 L7 S7
    go_wp2_with fail
    refine (Append_ov L8.out HOV.out (.slice a3 ne c3) ⟨_, _, _, rfl⟩).mono ?_
    rintro e w9 ⟨rfl, rfl⟩
    go_wp2_with fail
    have NN := Lib.hid ((Nw.refl w8).alloc (.cells (evV Ev.zero).toArray 55 (0, 0)))
    have L9 := Lib.hid (L8.out.nw NN.out)
    refine (Append_ov L9.out HOV.out _ ⟨_, _, _, rfl⟩).mono ?_
    rintro e w10 ⟨rfl, rfl⟩
    go_wp2_with fail
    refine (Sync_ov L9.out HOV.out).mono ?_
    rintro e w10 ⟨rfl, rfl⟩
    go_wp2_with fail
    refine (Swap_ov L9.out HOV.out _ ⟨_, _, _, rfl⟩).mono ?_
    rintro e w10 ⟨rfl, rfl⟩
    go_wp2_with fail
    refine (L9.out.has.used HUS.out).mono ?_
    rintro e w10 ⟨rfl, n10⟩
    have L10 := Lib.hid (L9.out.nw n10)
    have S10 := Lib.hid (S8.out.nw (NN.out.trans n10))
    have P10 := Lib.hid (P8.out.nw (NN.out.trans n10))
    clear n10 L9 L8 S8 P8 NN
    go_wp2_with fail
    refine (L10.out.has.list HNL.out).mono ?_
    rintro e w11 ⟨v11, rfl, s11, n11, -⟩
    have L11 := Lib.hid (L10.out.nw n11)
    have S11 := Lib.hid s11
    have S12 := Lib.hid (S10.out.nw n11)
    have P11 := Lib.hid (P10.out.nw n11)
    obtain ⟨xa11, xc11, rfl, -⟩ := s11.len
    clear n11 s11 L10 S10 P10
    go_wp2_with fail
    refine (SameTexts_ok S11.out S12.out).mono ?_
    rintro e w12 ⟨rfl, n12⟩
    rw [show (nl == nl) = true by simp]
    have L12 := Lib.hid (L11.out.nw n12)
    have P12 := Lib.hid (P11.out.nw n12)
    clear n12 L11 P11 S11 S12
    go_wp2_with fail
    refine (L12.out.len HLN.out).mono ?_
    rintro e w13 ⟨rfl, rfl⟩
    go_wp2_with fail
    refine (L12.out.ack HAK.out).mono ?_
    rintro e w13 ⟨rfl, rfl⟩
    go_wp2_with fail
    refine (L12.out.pieces HPS.out (by omega)).mono ?_
    rintro e w13 ⟨v13, rfl, q1, q2, -⟩
    have P13 := Lib.hid (q1.pcs HPO.out)
    obtain ⟨xa13, xc13, rfl, -⟩ := q1.len
    have L13 := Lib.hid (L12.out.nw q2)
    have P14 := Lib.hid (P12.out.nw q2)
    clear q1 q2 L12 P12
    go_wp2_with fail
    refine (SamePieces_ok P13.out P14.out).mono ?_
    rintro e w14 ⟨rfl, n14⟩
    have L14 := Lib.hid (L13.out.nw n14)
    clear n14 L13 P13 P14
    go_wp2_with fail
    refine (L14.out.over HOV.out).mono ?_
    rintro e w15 ⟨rfl, rfl⟩
    go_wp2_with fail
    refine (awake_ok w14 (HT.out.nw L14.out.base)).mono ?_
    rintro e w16 ⟨rfl, n16⟩
    have N16 := Lib.hid (L14.out.base.trans n16)
    clear n16
    go_wp2
    go_ret
    exact ⟨rfl, N16.out⟩
end Go.Proofs.YtoikjiojhlfgiaaGreatDoor.SeglogEnded
