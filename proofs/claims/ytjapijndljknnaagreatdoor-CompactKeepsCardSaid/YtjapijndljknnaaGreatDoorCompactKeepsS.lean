/-
  Texts merged by a program of this claim's: CompactKeeps.
-/
import Derived.Test.YtjapijndljknnaaGreatDoorM44
import Derived.Test.YtjapijndljknnaaGreatDoorM50
import Derived.Test.YtjapijndljknnaaGreatDoorM42
import Derived.Test.YtjapijndljknnaaGreatDoorM35
/-
  amanuensislaw07.CompactKeeps: a log's events are the same behind Compact, and behind a crash at any operation within it.
-/
namespace Go.Proofs.YtjapijndljknnaaGreatDoor.CompactKeeps
open Go Go.RowKit Go.Sort
set_option maxRecDepth 100000
set_option maxHeartbeats 16000000
theorem walk (w : World) (ht : Tab w) (v0 v1 v3 : Value) (fs : List (List Ev)) (acs : List Int) (size : Int) (ks : List Int) (h0 : RdK 1 (isEvs w) w v0 fs) (h1 : Rd i64v w v1 acs ∧ ∀ z ∈ acs, -9223372036854775808 ≤ z ∧ z ≤ 9223372036854775807)
    (_h2 : -9223372036854775808 ≤ size ∧ size ≤ 9223372036854775807) (h3 : Rd i64v w v3 ks ∧ ∀ z ∈ ks, -9223372036854775808 ≤ z ∧ z ≤ 9223372036854775807) :
    Calls Tryz.prog 9 #[v0, v1, .int .i64 size, v3] w fun e w' => e = .returned (.bool true) ∧ Nw w w' := by
  have HT := Lib.hid ht
  have HF := Lib.hid h0
  have R1 := Lib.hid h1.1
  have R3 := Lib.hid h3.1
  obtain ⟨a0, c0, rfl, -⟩ := h0.len
  obtain ⟨ca, cc, rfl, hcl⟩ := h1.1.len
  obtain ⟨ka, kc, rfl, -⟩ := h3.1.len
  clear ht h0 h1 h3 _h2
  obtain ⟨nf, hnf⟩ : ∃ n, fs.length = n := ⟨_, rfl⟩
  obtain ⟨na, hna⟩ : ∃ n, acs.length = n := ⟨_, rfl⟩
  obtain ⟨nk, hnk⟩ : ∃ n, ks.length = n := ⟨_, rfl⟩
  rw [hnf] at HF ⊢
  rw [hna] at R1 hcl ⊢
  rw [hnk] at R3 ⊢
  have hna63 : na ≤ 9223372036854775807 := by unfold maxLen at hcl; omega
  have HNF := Lib.hid hnf
  have HNA := Lib.hid hna
  have HNK := Lib.hid hnk
  clear hnf hna hnk hcl
  have hp0 := Int.emod_nonneg size (by omega : (200 : Int) ≠ 0)
  have hp1 := Int.emod_lt_of_pos size (by omega : (0 : Int) < 200)
  have PS := Lib.hid (fun W => Pick_ok size 200 W (by omega) (by omega))
  obtain ⟨sz, hsz⟩ : ∃ x, size % 200 = x := ⟨_, rfl⟩
  rw [hsz] at hp0 hp1 PS
  have HZ : Hid (64 ≤ 64 + sz ∧ 64 + sz ≤ 16777216 ∧ in64 (64 + sz)) := Lib.hid ⟨by omega, by omega, by omega, by omega⟩
  have hws : IntKind.i64.wrap (64 + sz) = 64 + sz := IntWalk.i64_in _ (by omega)
  obtain ⟨d0, cr, ci⟩ := Ci.new (z := 64 + sz) (by omega) (by omega)
  have CR := Lib.hid cr
  have CI := Lib.hid ci
  clear hsz cr ci hp0 hp1
  go_enter Tryz.func9, Tryz.ntmps9
  go_wp2_with fail
  refine (HasX.new 1048576 w (by omega) (by omega)).mono ?_
  rintro e w1 ⟨b, rfl, H1⟩
  have H1 := Lib.hid H1
  go_wp2_with fail
  refine (PS.out w1).mono ?_
  rintro e w2 ⟨rfl, rfl⟩
  have C := Create_ok H1.out HT.out (64 + sz)
  rw [CR.out] at C
  have C := Lib.hid C
  go_wp2_with fail
  refine C.out.mono ?_
  rintro e w3 ⟨-, ⟨-, p, rfl, L3⟩ | ⟨hx, -⟩⟩
  case inr => exact absurd rfl hx
  have L3 := Lib.hid L3
  clear C H1 CR PS
  go_wp2
  go_loopw [11, 13, 14] (fun l s i wr => ∃ (k c m p : Nat) (d : Dsk) (L : Lg) (all : List Ev), k ≤ 40 ∧ c ≤ k ∧ l = .pointer (some ⟨p, 0, none⟩) ∧ i = .int .i64 k ∧ Ci c (64 + sz) d L all ∧ HasL (fun j => s.ownBlock = some j) w wr p b d L ∧ Vec 5 wr s m (all.flatMap evV) ∧ all.length = m ∧ ∀ g, s.ownBlock = some g → w.heap.size ≤ g) (fun _ _ i _ => 40 - (intOf i).toNat)
  case atStart => exact ⟨0, 0, 0, p, d0, _, [], by omega, by omega, rfl, rfl, CI.out, L3.out.grow (Only.refl _) (Z := fun _ => False) (fun k hk => hk.elim) (fun k hk => by cases hk), Vec.nil, rfl, fun g hg => by cases hg⟩
  case round =>
    obtain ⟨k, c, m, p, d, L, all, hk, hck, rfl, rfl, hci, hL, hs, hm, hfr⟩ := hrel
    have CI := Lib.hid hci
    have HL := Lib.hid hL
    have HS := Lib.hid hs
    have HM := Lib.hid hm
    have HFR := Lib.hid hfr
    obtain ⟨sa, sc, rfl, -⟩ := hs.len
    have hmle : m ≤ 30 * c := by rw [← hm]; exact hci.len
    clear hci hL hs hm hfr L3
    go_upto_region 8 with fail
    go_cut [61] (fun t wx => t = .bool (decide (k < nf ∧ k < 40 ∧ k < na)) ∧ wx = wr)
    case first =>
      by_cases c1 : k < nf
      case neg =>
        go_wp2_with fail
        go_meet
        case rel => exact ⟨by simp [c1], rfl⟩
      by_cases c2 : k < 40
      case neg =>
        go_wp2_with fail
        go_meet
        case rel => exact ⟨by simp [c2], rfl⟩
      by_cases c3 : k < na
      case neg =>
        go_wp2_with fail
        go_meet
        case rel => exact ⟨by simp [c3], rfl⟩
      go_wp2_with fail
      go_meet
      case rel => exact ⟨by simp [c1, c2, c3], rfl⟩
    case rest =>
      obtain ⟨rfl, rfl⟩ := hcut
      by_cases hgo : k < nf ∧ k < 40 ∧ k < na
      case neg =>
        have hd : decide (k < nf ∧ k < 40 ∧ k < na) = false := decide_eq_false hgo
        rw [hd]
        have EV : Hid (Evs wc (.slice sa m sc) all) := Lib.hid ⟨by rw [HM.out]; exact HS.out.src, CI.out.ok⟩
        obtain ⟨gd, hsc⟩ := (CI.out.kin.rtl).scan wb_whole CI.out.calm.up
        have SC := Lib.hid hsc
        clear hsc
        go_wp2_with fail
        refine (Scan_ok HL.out.has (.inl den_unpack) SC.out).mono ?_
        rintro e w5 ⟨v5, u5', rfl, o1, o2⟩
        obtain ⟨xa, xc, rfl, -⟩ := o1.1.len
        obtain ⟨ya, yc, rfl, -⟩ := o2.1.len
        have X5 : Hid (Evs w5 (.slice xa all.length xc) all) := Lib.hid ⟨o1.1.src, CI.out.ok⟩
        have E5 := Lib.hid (EV.out.nw o1.2.1)
        have N5 := Lib.hid (HL.out.base.trans o1.2.1)
        clear o1 o2 SC EV
        go_wp2_with fail
        refine (SameEvents_ok X5.out E5.out).mono ?_
        rintro e w6 ⟨rfl, n6⟩
        have N6 := Lib.hid (N5.out.trans n6)
        clear n6
        go_wp2_with fail
        refine (awake7_ok w6 (HT.out.nw N6.out)).mono ?_
        rintro e w7 ⟨rfl, n7⟩
        have N7 := Lib.hid (N6.out.trans n7)
        clear n7
        go_wp2
        go_ret
        exact ⟨rfl, N7.out⟩
      case pos =>
        have hd : decide (k < nf ∧ k < 40 ∧ k < na) = true := decide_eq_true hgo
        rw [hd]
        obtain ⟨c1, c2, c3⟩ := hgo
        obtain ⟨g, o, ea, ec, rfl, hg, hc0, hev⟩ := frame_at HF.out HNF.out c1
        have hc1 := HL.out.base.cell hc0
        have EV := Lib.hid (hev.nw HL.out.base)
        have hgw : g < wc.heap.size := Nat.lt_of_lt_of_le hg HL.out.base.size
        have HCELL := Lib.hid hc0
        have HG := Lib.hid hg
        have HEV := Lib.hid hev
        clear hc0 hev hg hd
        generalize fs[k]'_ = es at hc1 EV HCELL HEV
        obtain ⟨n, hn⟩ : ∃ n, es.length = n := ⟨_, rfl⟩
        have HN := Lib.hid hn
        rw [hn] at hc1 EV HCELL HEV
        clear hn
        by_cases hz : n = 0
        case pos =>
          subst hz
          go_wp2_with fail
          go_roundw
          case rel => exact ⟨k + 1, c, m, p, d, L, all, by omega, by omega, rfl, by go_num, CI.out, HL.out, HS.out, HM.out, HFR.out⟩
          case measure => simp [intOf]; omega
        have hz1 : ((n : Int) == 0) = false := by simp; omega
        by_cases h30 : 30 < n
        case pos =>
          have hz2 : decide ((30 : Int) < (n : Int)) = true := by simp; omega
          go_wp2_with fail
          go_roundw
          case rel => exact ⟨k + 1, c, m, p, d, L, all, by omega, by omega, rfl, by go_num, CI.out, HL.out, HS.out, HM.out, HFR.out⟩
          case measure => simp [intOf]; omega
        have hz2 : decide ((30 : Int) < (n : Int)) = false := by simp; omega
        have C := Rk.call HL.out CI.out.kin CI.out.rk HZ.out.2.2 (by omega) (by rw [HM.out]; omega) HT.out EV.out
        obtain ⟨had, hci⟩ := CI.out.add (by omega) (es := es) (by rw [HN.out]; exact hz) (by rw [HN.out]; omega) EV.out.ok
        obtain ⟨r, hr⟩ : ∃ r, L.add d es = r := ⟨_, rfl⟩
        rw [hr] at C had hci
        obtain ⟨d1, L1, x⟩ := r
        simp only at C had hci
        subst had
        have C := Lib.hid C
        have CI1 := Lib.hid hci
        clear hr hci
        go_wp2_with fail
        refine C.out.mono ?_
        rintro e w5 ⟨rfl, hl5, hk5⟩
        have L5 := Lib.hid hl5
        have S5 := Lib.hid (HS.out.kept hk5 fun g hg => hg)
        clear hl5 hk5 C EV hc1 hgw HL HS
        have E5 : Hid (Evs w5 (.slice sa m sc) all) := Lib.hid ⟨by rw [HM.out]; exact S5.out.src, CI.out.ok⟩
        have HC : Hid (∀ W, Nw w5 W → Calls Tryz.prog 44 #[.slice sa m sc] W fun e w' => ∃ v', e = .returned v' ∧ Vec 5 w' v' m (all.flatMap evV) ∧ Nw W w' ∧ ∀ g, v'.ownBlock = some g → W.heap.size ≤ g) := Lib.hid (fun W hW => by
          have := CopyEvents_ok (E5.out.nw hW) (by rw [HM.out]; omega)
          rw [HM.out] at this
          exact this)
        have C1 : Hid (w5.cell? ⟨g, o + k, none⟩ = some (.slice ea n ec)) := Lib.hid (L5.out.base.cell HCELL.out)
        have G1 : Hid (g < w5.heap.size) := Lib.hid (Nat.lt_of_lt_of_le HG.out L5.out.base.size)
        have X5 : Hid (SrcV 5 w5 (.slice ea n ec) n (es.flatMap evV)) := Lib.hid (by have := (HEV.out.nw L5.out.base).src; rw [HN.out] at this; exact this)
        go_upto_region 14 with fail
        refine r14 (cs := all.flatMap evV) (news := es.flatMap evV) HC C1 G1 (Lib.hid c1) X5 (Lib.hid fun u hu => evV_one es u hu) (by omega) (fun _ _ _ _ _ h => h) ?_
        intro s82 s83 s84 s85 s86 s87 s88 s13 a' c' w6 h13 hv6 n6 f6
        subst h13
        have L6 : Hid (HasL (fun j => (Value.slice a' (m + n) c').ownBlock = some j) w w6 p b d1 L1) := Lib.hid (L5.out.wider n6 fun j hj => .inr ⟨f6 j hj, hv6.lt j hj⟩)
        have S6 : Hid (Vec 5 w6 (.slice a' (m + n) c') (m + n) ((all ++ es).flatMap evV)) := Lib.hid (by rw [List.flatMap_append]; exact hv6)
        have F6 : Hid (∀ g, (Value.slice a' (m + n) c').ownBlock = some g → w.heap.size ≤ g) := Lib.hid (fun g hg => Nat.le_trans L5.out.base.size (f6 g hg))
        obtain ⟨al, hal⟩ : ∃ x, all ++ es = x := ⟨_, rfl⟩
        have M6 : Hid (al.length = m + n) := Lib.hid (by rw [← hal, List.length_append, HM.out, HN.out])
        rw [hal] at S6 CI1
        clear hal E5 HC C1 G1 X5 hv6 n6 f6 L5 S5 HCELL HG HEV hz1 hz2 CI HM HFR HN
        obtain ⟨g2, o2, ha1, hg2, hcs⟩ := el_at R1.out HNA.out c3
        subst ha1
        have hcs := L6.out.base.cell hcs
        have hg3 : g2 < w6.heap.size := Nat.lt_of_lt_of_le hg2 L6.out.base.size
        clear hg2
        generalize (acs[k]'_ : Int) = z at hcs
        have hcs : w6.cell? ⟨g2, o2 + k, none⟩ = some (.int .i64 z) := hcs
        have hq0 := Int.emod_nonneg z (by omega : (1000003 : Int) ≠ 0)
        have hq1 := Int.emod_lt_of_pos z (by omega : (0 : Int) < 1000003)
        have PK := Lib.hid (Pick_ok z 1000003 w6 (by omega) (by omega))
        obtain ⟨a, ha⟩ : ∃ a : Nat, z % 1000003 = a := ⟨(z % 1000003).toNat, by omega⟩
        rw [ha] at PK hq0 hq1
        have hal : a ≤ 1000002 := by omega
        clear ha hq0 hq1
        go_wp2_with fail
        refine PK.out.mono ?_
        rintro e w7 ⟨rfl, rfl⟩
        clear PK hcs hg3
        have hm4 : Int.tmod (a : Int) 4 = ((a % 4 : Nat) : Int) := by rw [Int.tmod_eq_emod_of_nonneg (by omega)]; omega
        obtain ⟨r4, hr4⟩ : ∃ r, a % 4 = r := ⟨_, rfl⟩
        rw [hr4] at hm4
        by_cases h41 : r4 = 1
        case pos =>
          subst h41
          obtain ⟨hsy, cis⟩ := CI1.out.sync
          have C := Lib.hid (LSync_ok L6.out)
          have CIS := Lib.hid cis
          clear hsy cis
          go_wp2_with fail
          refine C.out.mono ?_
          rintro e w8 ⟨rfl, hl8, hk8⟩
          have L8 := Lib.hid hl8
          have S8 := Lib.hid (S6.out.kept hk8 fun g hg => hg)
          clear hl8 hk8 C L6 S6
          go_wp2_with fail
          go_roundw
          case rel => exact ⟨k + 1, c + 1, m + n, p, _, _, al, by omega, by omega, rfl, by go_num, CIS.out, L8.out, S8.out, M6.out, F6.out⟩
          case measure => simp [intOf]; omega
        have h41b : ((r4 : Int) == 1) = false := by simp; omega
        by_cases h40 : r4 = 0
        case neg =>
          have h40b : ((r4 : Int) != 0) = true := by simp; omega
          go_wp2_with fail
          go_roundw
          case rel => exact ⟨k + 1, c + 1, m + n, p, _, _, al, by omega, by omega, rfl, by go_num, CI1.out, L6.out, S6.out, M6.out, F6.out⟩
          case measure => simp [intOf]; omega
        subst h40
        have hd4 : Int.tdiv (a : Int) 4 = ((a / 4 : Nat) : Int) := by rw [Int.tdiv_eq_ediv_of_nonneg (by omega)]; omega
        have hd12 : Int.tdiv (a : Int) 12 = ((a / 12 : Nat) : Int) := by rw [Int.tdiv_eq_ediv_of_nonneg (by omega)]; omega
        have hm3 : Int.tmod ((a / 4 : Nat) : Int) 3 = ((a / 4 % 3 : Nat) : Int) := by rw [Int.tmod_eq_emod_of_nonneg (by omega)]; omega
        have hm20 : Int.tmod ((a / 12 : Nat) : Int) 20 = ((a / 12 % 20 : Nat) : Int) := by rw [Int.tmod_eq_emod_of_nonneg (by omega)]; omega
        have hb4 : a / 4 ≤ 1000002 := by omega
        have hb12 : a / 12 ≤ 1000002 := by omega
        generalize a / 4 = q4 at hd4 hm3 hb4
        generalize a / 12 = q12 at hd12 hm20 hb12
        have hw4 : IntKind.i64.wrap (q4 : Int) = (q4 : Int) := IntWalk.i64_in _ (by omega)
        generalize hr3 : q4 % 3 = r3 at hm3
        generalize hr20 : q12 % 20 = r20 at hm20
        have hr20l : r20 < 20 := by omega
        have ML := Lib.hid (show m + n ≤ 30 * (c + 1) by omega)
        go_upto_if 105 with fail
        clear hw4 hd4 hm3
        refine p105 L6 S6 hd12 hm20 hb12 hr20l (fun _ _ _ _ _ h => h) ?_
        intro s106 s107 s108 s109 s110 d2 wc hd2f hd2m hl8 hs8
        ·
          obtain ⟨w8, hw8⟩ : ∃ W, wc = W := ⟨_, rfl⟩
          rw [hw8] at hl8 hs8 ⊢
          have L8 := Lib.hid hl8
          have S8 := Lib.hid hs8
          obtain ⟨⟨l', hl'c, hrt⟩, hcm, hce⟩ := CI1.out.comp (d2 := d2) (by omega) hd2f hd2m
          have C := Compact_ok L8.out (by rw [hd2f]; exact CI1.out.kin.imp wb_whole) CI1.out.ok (by rw [M6.out]; have := ML.out; omega) HT.out
          obtain ⟨ak, hak⟩ : ∃ z, L1.acked = z := ⟨_, rfl⟩
          rw [hak] at hrt
          obtain ⟨R, hR⟩ : ∃ R, compD al L1 d2 = R := ⟨_, rfl⟩
          rw [hR] at hrt hcm hce C
          obtain ⟨d3, L3', n3, x3⟩ := R
          simp only at hrt hcm hce C
          have EVOK := Lib.hid CI1.out.ok
          have HAK := Lib.hid hak
          have RTL := Lib.hid hrt
          have CM := Lib.hid hcm
          have CE := Lib.hid hce
          have HLC := Lib.hid hl'c
          have C := Lib.hid C
          clear hl8 hs8 hw8 hrt hcm hce hR hak hl'c hd2f hd2m L6 S6 hm4 hd12 hm20 hr20l h41 h41b CI1
          go_wp2_with fail
          refine (L8.out.ack HAK.out).mono ?_
          rintro e w9 ⟨rfl, rfl⟩
          go_wp2_with fail
          refine C.out.mono ?_
          rintro e w9 ⟨rfl, hl9, hk9⟩
          have L9 := Lib.hid hl9
          have S9 := Lib.hid (S8.out.kept hk9 fun g hg => hg)
          clear hl9 hk9 C L8 S8
          go_upto_region 23 with fail
          refine p23 L9 (fun _ _ _ _ _ h => h) ?_
          intro s118 s119 s120 s121 s122 s123 t23 wc ht23 hwc
          subst hwc
          ·
            go_upto_if 124 with fail
            refine p124 ht23 L9 S9 R3 CE EVOK M6 (fun _ _ _ _ _ h => h) ?_
            intro s20 s21 s22 s125 s126 s127 s128 s129 s130 s131 s132 s133 s134 s135 s136 s137 s138 s139 s140 s141 s142 s143 s144 s145 s146 s147 s148 s149 s150 s151 s152 s153 s154 s155 s156 kk wc hx10 hs10
            ·
              have hdok := L9.out.ok
              obtain ⟨i, d5, L5', i1, i2, hop, hn5, hci5⟩ := RTL.out.life hdok CM.out HZ.out.1 HZ.out.2.1 HLC.out (by rw [M6.out]; exact ML.out) (by omega) EVOK.out kk
              obtain ⟨tl, htl⟩ : ∃ x, al.take i = x := ⟨_, rfl⟩
              have htn : tl.length = i := by rw [← htl, List.length_take]; omega
              rw [htl] at hop hci5
              have i2' : i ≤ m + n := by rw [← M6.out]; exact i2
              have H10 := Lib.hid hx10
              have E10 : Hid (Evs wc (.slice a' (m + n) c') al) := Lib.hid ⟨by rw [M6.out]; exact hs10.src, EVOK.out⟩
              have C := Open_ok H10.out HT.out (.inl den_unpack) (64 + sz)
              rw [hop] at C
              have C := Lib.hid C
              have CI5 := Lib.hid hci5
              have HTL := Lib.hid htl
              have HTN := Lib.hid htn
              clear hx10 hs10 hop hci5 htl htn i2 S9 L9 CE RTL CM
              go_wp2_with fail
              refine C.out.mono ?_
              rintro e w11 ⟨k11, ⟨-, p5, v5, rfl, hl11, V11, f11⟩ | ⟨hx, -⟩⟩
              case inr => exact absurd rfl hx
              simp only at V11 hl11
              rw [HTN.out] at V11
              obtain ⟨xa, xc, rfl, -⟩ := V11.len
              have E11 := Lib.hid (E10.out.kept k11 fun g hg => hg)
              have X11 : Hid (Evs w11 (.slice xa i xc) tl) := Lib.hid ⟨by rw [HTN.out]; exact V11.src, fun e he => EVOK.out e (List.mem_of_mem_take (HTL.out.symm ▸ he))⟩
              have L11 : Hid (HasL (fun j => (Value.slice xa i xc).ownBlock = some j) w w11 p5 b d5 L5') := Lib.hid (hl11.less fun j hj => .inr hj)
              have V12 := Lib.hid V11
              have F11 : Hid (∀ g, (Value.slice xa i xc).ownBlock = some g → w.heap.size ≤ g) := Lib.hid (fun g hg => Nat.le_trans H10.out.base.size (f11 g hg))
              have CI6 := Lib.hid (CI5.out L11.out.ok)
              clear hl11 V11 f11 k11 E10 H10 C CI5
              have hmn := ML.out
              go_upto_region 30 with fail
              refine p30 i1 i2' (by omega) M6 EVOK HTL E11 X11 (fun _ _ _ _ _ h => h) ?_
              intro s164 s165 s166 s167 s168 s169 s170 s171 s172 s173 s174 s175 s176 s177 s178 s179 s180 s181 s182 s183 s184 s185 s186 w12 n12
              have L12 := Lib.hid (L11.out.nw n12)
              have S12 := Lib.hid (V12.out.nw n12)
              clear n12 L11 V12 X11 E11
              go_wp2_with fail
              go_roundw
              case rel => exact ⟨k + 1, c + 1, i, p5, d5, L5', tl, by omega, by omega, rfl, by go_num, CI6.out, L12.out, S12.out, HTN.out, F11.out⟩
              case measure => simp [intOf]; omega
end Go.Proofs.YtjapijndljknnaaGreatDoor.CompactKeeps
