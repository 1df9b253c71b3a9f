/-
  Texts merged by a program of this claim's: SeglogAcked.
-/
import Derived.Test.YtoikjiojhlfgiaaGreatDoorM21
/-
  amanuensislaw05.SeglogAcked: what is acknowledged never falls.
-/
namespace Go.Proofs.YtoikjiojhlfgiaaGreatDoor.SeglogAcked
open Go Go.RowKit Go.Sort
set_option maxRecDepth 100000
set_option maxHeartbeats 1600000

theorem walk (w : World) (ht : Tab w) (v0 v1 : Value) (fs : List (List Ev)) (ss : List Bool) (size : Int) (h0 : RdK 1 (isEvs w) w v0 fs) (h1 : Rd Value.bool w v1 ss) (_hs : -9223372036854775808 ≤ size ∧ size ≤ 9223372036854775807) :
    Calls Tryz.prog 3 #[v0, v1, .int .i64 size] w fun e w' => e = .returned (.bool true) ∧ Nw w w' := by
  have HT := Lib.hid ht
  have HF := Lib.hid h0
  have HS := Lib.hid h1
  obtain ⟨a0, c0, rfl, -⟩ := h0.len
  obtain ⟨a1, c1, rfl, -⟩ := h1.len
  clear ht h0 h1 _hs
  obtain ⟨nf, hnf⟩ : ∃ n, fs.length = n := ⟨_, rfl⟩
  obtain ⟨ns, hns⟩ : ∃ n, ss.length = n := ⟨_, rfl⟩
  rw [hnf] at HF ⊢
  rw [hns] at HS ⊢
  have HNF := Lib.hid hnf
  have HNS := Lib.hid hns
  clear hnf hns
  have hp0 := Int.emod_nonneg size (by omega : (300 : Int) ≠ 0)
  have hp1 := Int.emod_lt_of_pos size (by omega : (0 : Int) < 300)
  have hwr : IntKind.i64.wrap (64 + size % 300) = 64 + size % 300 := IntWalk.i64_in _ (by omega)
  obtain ⟨d0, cr, ak⟩ := Ak.new (size := 64 + size % 300) (by omega) (by omega)
  have AK := Lib.hid ak
  have CR := Lib.hid cr
  have HZ0 : Hid (in64 (64 + size % 300)) := Lib.hid ⟨by omega, by omega⟩
  clear ak cr hp0 hp1
  have hmm := @run_makeMap Tryz.prog
  go_enter Tryz.func3, Tryz.ntmps3
  go_wp2_with fail
  refine (HasX.new 1048576 w (by omega) (by omega)).mono ?_
  rintro e w1 ⟨b, rfl, H1⟩
  have H1 := Lib.hid H1
  go_wp2_with fail
  refine (Pick_ok size 300 w1 (by omega) (by omega)).mono ?_
  rintro e w2 ⟨rfl, rfl⟩
  have HC := Lib.hid (Create_ok H1.out HT.out (64 + size % 300))
  have hcr := CR.out
  rw [hcr] at HC
  clear hcr
  go_wp2_with fail
  refine HC.out.mono ?_
  rintro e w3 ⟨-, ⟨-, p, rfl, L3⟩ | ⟨hx, -⟩⟩
  case inr => exact absurd rfl hx
  have L3 := Lib.hid L3
  clear HC H1 CR
  go_wp2
  generalize hm3 : w3.heap.size = m at *
  have hmw : w.heap.size ≤ m := by have := L3.out.base.size; omega
  have HMW := Lib.hid hmw
  have L4 : Hid (HasL (fun j => j = m) w (w3.alloc (.map #[] 0)) p b d0 (newLg (64 + size % 300))) := Lib.hid (L3.out.wider ((Nw.refl w3).alloc _) fun j hj => .inr (by subst hj; simp [hm3]))
  have F4 : Hid (Firsts (w3.alloc (.map #[] 0)) m) := Lib.hid ⟨[], 0, by rw [← hm3]; exact heap_alloc_new w3 _, fun e he => by cases he⟩
  clear hm3 hmw L3
  go_loopw [11, 13] (fun was i wr => ∃ (k c a : Nat) (d : Dsk) (L : Lg), k ≤ 60 ∧ c ≤ k ∧ i = .int .i64 k ∧ was = .int .i64 a ∧ a ≤ L.acked ∧ Ak (64 + size % 300) c d L ∧ HasL (fun j => j = m) w wr p b d L ∧ Firsts wr m) (fun _ i _ => 60 - (intOf i).toNat)
  case atStart => exact ⟨0, 0, 0, d0, _, by omega, by omega, rfl, rfl, by omega, AK.out, L4.out, F4.out⟩
  case round =>
    obtain ⟨k, c, a, d, L, hk, hck, rfl, rfl, hal, hak, hL, hF⟩ := hrel
    have AK := Lib.hid hak
    have HL := Lib.hid hL
    have HF1 := Lib.hid hF
    have HAL := Lib.hid hal
    clear hak hL hF hal
    by_cases h1 : k < nf
    case neg =>
      go_wp2_with fail
      refine (awake_ok wr (HT.out.nw HL.out.base)).mono ?_
      rintro e w6 ⟨rfl, n6⟩
      have N6 := Lib.hid (HL.out.base.trans n6)
      clear n6
      go_wp2
      go_ret
      exact ⟨rfl, N6.out⟩
    by_cases h2 : k < 60
    case neg =>
      go_wp2_with fail
      refine (awake_ok wr (HT.out.nw HL.out.base)).mono ?_
      rintro e w6 ⟨rfl, n6⟩
      have N6 := Lib.hid (HL.out.base.trans n6)
      clear n6
      go_wp2
      go_ret
      exact ⟨rfl, N6.out⟩
    obtain ⟨g, o, ea, ec, rfl, hg, hc0, hev⟩ := frame_at HF.out HNF.out h1
    have hc1 := HL.out.base.cell hc0
    have EV := Lib.hid (hev.nw HL.out.base)
    have hgw : g < wr.heap.size := Nat.lt_of_lt_of_le hg HL.out.base.size
    clear hc0 hev hg
    generalize fs[k]'_ = es at hc1 EV
    obtain ⟨n, hn⟩ : ∃ n, es.length = n := ⟨_, rfl⟩
    have HN := Lib.hid hn
    rw [hn] at hc1 EV
    clear hn
    by_cases hz : n = 0
    case pos =>
      subst hz
      go_wp2_with fail
      go_roundw
      case rel => exact ⟨k + 1, c, a, d, L, by omega, by omega, by go_num, rfl, HAL.out, AK.out, HL.out, HF1.out⟩
      case measure => simp [intOf]; omega
    have hz1 : ((n : Int) == 0) = false := by simp; omega
    by_cases h30 : 30 < n
    case pos =>
      have hz2 : decide ((30 : Int) < (n : Int)) = true := by simp; omega
      go_wp2_with fail
      go_roundw
      case rel => exact ⟨k + 1, c, a, d, L, by omega, by omega, by go_num, rfl, HAL.out, AK.out, HL.out, HF1.out⟩
      case measure => simp [intOf]; omega
    have hz2 : decide ((30 : Int) < (n : Int)) = false := by simp; omega
    obtain ⟨d1, L1, ad, ak1, hac, hn1⟩ := AK.out.add (es := es) (by omega) (by rw [HN.out]; omega) (by rw [HN.out]; omega)
    have C := Ak.call HL.out AK.out (by omega) HZ0.out HT.out EV.out
    rw [ad] at C
    have C := Lib.hid C
    have AK1 := Lib.hid ak1
    have HAL1 : Hid (a ≤ L1.acked) := Lib.hid (Nat.le_trans HAL.out hac)
    clear ad ak1 hac hn1 hz
    go_wp2_with fail
    refine C.out.mono ?_
    rintro e w5 ⟨rfl, L5, K5⟩
    have L5 := Lib.hid L5
    have F5 := Lib.hid (HF1.out.kept K5 rfl)
    clear K5 C EV hc1
    go_upto_region 13 with fail
    go_cut [90] (fun s90 wx => s90 = .bool false ∧ ∃ d2 L2, Ak (64 + size % 300) (c + 1) d2 L2 ∧ a ≤ L2.acked ∧ HasL (fun j => j = m) w wx p b d2 L2 ∧ Firsts wx m)
    case first =>
      by_cases hs : k < ns
      case neg =>
        go_wp2_with fail
        go_meet
        case rel => exact ⟨rfl, d1, L1, AK1.out, HAL1.out, L5.out, F5.out⟩
      obtain ⟨sa, sc, hv1, -, -, hel⟩ := HS.out.elems
      obtain ⟨g', o', rfl, hg', hcs⟩ := el_at HS.out HNS.out hs
      have hcs := L5.out.base.cell hcs
      have hg2 : g' < w5.heap.size := Nat.lt_of_lt_of_le hg' L5.out.base.size
      clear hel hv1 hg'
      generalize ss[k]'_ = sb at hcs
      cases sb
      case false =>
        go_wp2_with fail
        go_meet
        case rel => exact ⟨rfl, d1, L1, AK1.out, HAL1.out, L5.out, F5.out⟩
      obtain ⟨d2, L2, sy, ak2, han, hac, hnn⟩ := AK1.out.sync
      have C := LSync_ok L5.out
      rw [sy] at C
      have C := Lib.hid C
      have AK2 := Lib.hid ak2
      have HAL2 : Hid (a ≤ L2.acked) := Lib.hid (Nat.le_trans HAL1.out hac)
      have HAN := Lib.hid han
      clear sy ak2 han hac hnn
      go_wp2_with fail
      refine C.out.mono ?_
      rintro e w6 ⟨rfl, L6, K6⟩
      have L6 := Lib.hid L6
      have F6 := Lib.hid (F5.out.kept K6 rfl)
      clear K6 C hcs
      go_wp2_with fail
      refine (L6.out.ack HAN.out).mono ?_
      rintro e w7 ⟨rfl, rfl⟩
      go_wp2_with fail
      refine (L6.out.len rfl).mono ?_
      rintro e w7 ⟨rfl, rfl⟩
      go_wp2_with fail
      go_meet
      case rel => exact ⟨rfl, d2, L2, AK2.out, HAL2.out, L6.out, F6.out⟩
    case rest =>
      obtain ⟨rfl, d2, L2, ak2, hal2, hL2, hF2⟩ := hcut
      have AK2 := Lib.hid ak2
      have HAL2 := Lib.hid hal2
      have L7 := Lib.hid hL2
      have F7 := Lib.hid hF2
      clear ak2 hal2 hL2 hF2 AK1 HAL1 L5 F5 AK HAL HL HF1
      obtain ⟨q1, q2, q3, q4, q5, q6, q7, q8, q9⟩ := AK2.out.facts (by omega)
      have PC := Lib.hid (L7.out.pieces rfl (by omega))
      have PO := Lib.hid L7.out.pok
      have PQ := Lib.hid q9
      have hpos := List.length_pos_iff.2 q1
      obtain ⟨np, hnp⟩ : ∃ n, L2.l.length = n := ⟨_, rfl⟩
      obtain ⟨ak, hak⟩ : ∃ n, L2.acked = n := ⟨_, rfl⟩
      obtain ⟨ln, hln⟩ : ∃ n, L2.n = n := ⟨_, rfl⟩
      obtain ⟨fl, hfl⟩ : ∃ n, (lastP L2.l).first = n := ⟨_, rfl⟩
      rw [hnp] at hpos q2
      rw [hak] at q3 q4
      rw [hln] at q4 q5
      rw [hfl] at q3 q7
      have HNP := Lib.hid hnp
      have HAK := Lib.hid hak
      have HLN := Lib.hid hln
      have PL : Hid (∀ h, (L2.l[np - 1]'h).first = fl) := Lib.hid (fun h => by rw [← hfl, ← lastP_at q1]; simp only [hnp])
      have ha2 : a ≤ ak := by rw [← hak]; exact HAL2.out
      clear q1 q6 q8 q9 hnp hak hln hfl HAL2
      go_upto_region 15 with fail
      go_wp2_with fail
      refine PC.out.mono ?_
      rintro e w8 ⟨v8, rfl, v1, v2, v3⟩
      have P8 := Lib.hid (v1.pcs PO.out)
      have L8 := Lib.hid (L7.out.nw v2)
      have F8 := Lib.hid (F7.out.nw v2)
      clear v1 v2 v3 PC
      obtain ⟨pa, pc, rfl, hpc1, hpc2, hel⟩ := P8.out.elem
      have HEL := Lib.hid hel
      rw [HNP.out] at hpc1 P8 ⊢
      obtain ⟨pg, po, rfl, hpg, -, hfc, -, -⟩ := hel (np - 1) (by rw [HNP.out]; omega)
      rw [PL.out] at hfc
      clear hel hpc2
      obtain ⟨nq, rfl⟩ : ∃ nq, np = nq + 1 := ⟨np - 1, by omega⟩
      have hfc : w8.cell? ⟨pg, po + nq * 4 + 1, none⟩ = some (.int .i64 fl) := by simpa using hfc
      have hi2 : IntKind.i64.wrap (nq : Int) = (nq : Int) := IntWalk.i64_in _ (by omega)
      have d1 : decide (ak < a) = false := by simp; omega
      have d2 : decide (ln < ak) = false := by simp; omega
      have d3 : decide ((ak : Int) < fl) = false := by simp; omega
      have d4 : ((nq : Int) + 1 == 0) = false := by simp; omega
      have HA : Hid (∀ q : Regrown, Calls Tryz.prog 18 #[.pointer (some ⟨p, 0, none⟩)] (grow (redrawn w8 q.d) q.os) fun e w'' => e = .returned (.int .i64 (ak : Int)) ∧ ∃ p' : Regrown, w'' = grow (redrawn w8 p'.d) p'.os) := Lib.hid fun q => quiet_nw fun w2 hw2 => ((L8.out.nw hw2).ack HAK.out).mono fun e w' ⟨he, hw⟩ => ⟨he, hw ▸ Nw.refl _⟩
      have HLE : Hid (∀ q : Regrown, Calls Tryz.prog 19 #[.pointer (some ⟨p, 0, none⟩)] (grow (redrawn w8 q.d) q.os) fun e w'' => e = .returned (.int .i64 (ln : Int)) ∧ ∃ p' : Regrown, w'' = grow (redrawn w8 p'.d) p'.os) := Lib.hid fun q => quiet_nw fun w2 hw2 => ((L8.out.nw hw2).len HLN.out).mono fun e w' ⟨he, hw⟩ => ⟨he, hw ▸ Nw.refl _⟩
      go_upto_region 16 with fail
      have c1 := cellG hfc
      refine wp_region_quiet_below (by kernel_rfl) (by kernel_rfl) ?_
      repeat (first | go_big_quiet_step (first | exact HA.out _ | exact HLE.out _) | quiet_step (first | exact HA.out _ | exact HLE.out _))
      refine wpQuiet_nil ?_
      intro w9 hw9
      have N9 := Lib.hid (Nw.of_regrown hw9)
      have L9 := Lib.hid (L8.out.nw N9.out)
      have F9 := Lib.hid (F8.out.nw N9.out)
      have P9 := Lib.hid (P8.out.nw N9.out)
      clear hw9 HA HLE c1 d1 d2 d3 d4 hi2 hfc L8 F8 P8 N9
      go_upto_region 18 with fail
      go_wp2_with fail
      refine (L9.out.ack HAK.out).mono ?_
      rintro e w10 ⟨rfl, rfl⟩
      go_wp2
      go_loopw [125] (fun i wq => ∃ j : Nat, j ≤ nq + 1 ∧ i = .int .i64 j ∧ Nw w wq ∧ Only (fun x => x = m) w9 wq ∧ Firsts wq m) (fun i _ => nq + 1 - (intOf i).toNat)
      case atStart => exact ⟨0, by omega, rfl, L9.out.base, Only.refl _, F9.out⟩
      case round =>
        obtain ⟨j, hj, rfl, hwq, hoq, hfq⟩ := hrel
        by_cases hlt : j < nq + 1
        · have hjl : j < L2.l.length := by rw [HNP.out]; exact hlt
          obtain ⟨xg, xo, hxa, hxg, x0, x1, x2, x3⟩ := pcs_at P9.out HNP.out hlt
          injection hxa with hxa
          injection hxa with e1 e2
          subst e1 e2
          have hpm : pg ≠ m := Firsts.apart F9.out x0
          have x0 := hoq.cell x0 hpm
          have x1 := hoq.cell x1 hpm
          have x2 := hoq.cell x2 hpm
          have x3 := hoq.cell x3 hpm
          have hxg := Nat.lt_of_lt_of_le hxg hoq.size
          obtain ⟨f0, f1, f2⟩ := PQ.out _ (List.getElem_mem hjl)
          generalize hq : L2.l[j] = q at x0 x1 x2 x3 f0 f1 f2
          obtain ⟨qn, qf, qc, qd⟩ := q
          simp only at x0 x1 x2 x3 f0 f1 f2
          obtain ⟨f, rfl⟩ : ∃ f : Nat, qf = f := ⟨qf.toNat, by omega⟩
          obtain rfl : qn = segName f := f2
          have hn1 := (Nw.refl wr).alloc (.cells #[.string ⟨(segName f).toArray⟩, .int .i64 (f : Int), .int .i64 qc, .bool qd] 40 (0, 0))
          have hb1 := heap_alloc_new wr (.cells #[.string ⟨(segName f).toArray⟩, .int .i64 (f : Int), .int .i64 qc, .bool qd] 40 (0, 0))
          obtain ⟨x, ok, W2, l1, l2, l3, l4, l5, l6⟩ := firsts_step (w := w) (hfq.nw hn1) f (hwq.trans hn1) HMW.out
          have H4 := Lib.hid l4
          have H5 : Hid (Only (fun x => x = m) w9 W2) := Lib.hid ((hoq.trans (Nw.only hn1)).trans l5)
          have H6 := Lib.hid l6
          have hsn : (segName f).length ≤ 9223372036854775807 := by
            have := Lib.decDigits_length f
            have := Lib.nDigits_le20 f (by omega)
            simp only [segName, List.length_cons]; omega
          clear hn1 hb1 l4 l5 l6 hwq hoq hfq hq hjl
          cases ok
          case false =>
            go_wp2
            go_roundw
            case rel => exact ⟨j + 1, by omega, by go_num, H4.out, H5.out, H6.out⟩
            case measure => simp [intOf]; omega
          case true =>
            obtain rfl : x = (f : Int) := l2 rfl
            go_wp2
            go_roundw
            case rel => exact ⟨j + 1, by omega, by go_num, H4.out, H5.out, H6.out⟩
            case measure => simp [intOf]; omega
        · have HW := Lib.hid hwq
          have HO := Lib.hid hoq
          have HFQ := Lib.hid hfq
          clear hwq hoq hfq
          go_wp2
          go_roundw
          case rel =>
            obtain ⟨E, ck, hmm, -⟩ := F9.out
            exact ⟨k + 1, c + 1, ak, d2, L2, by omega, by omega, by go_num, rfl, Nat.le_of_eq HAK.out.symm, AK2.out, L9.out.setMap hmm rfl HMW.out HO.out, HFQ.out⟩
          case measure => simp [intOf]; omega
end Go.Proofs.YtoikjiojhlfgiaaGreatDoor.SeglogAcked
