/-
  Texts merged by a program of this claim's: SeglogCuts.
-/
import Derived.Test.YtoikjiojhlfgiaaGreatDoorM29
import Derived.Test.YtoikjiojhlfgiaaGreatDoorM22
import Derived.Test.YtoikjiojhlfgiaaGreatDoorM30
import Derived.Test.YtoikjiojhlfgiaaGreatDoorM21
/-
  amanuensislaw05.SeglogCuts: however events are cut into frames, the files tell the same.
-/
namespace Go.Proofs.YtoikjiojhlfgiaaGreatDoor.SeglogCuts
open Go Go.RowKit Go.Sort
set_option maxRecDepth 100000
set_option maxHeartbeats 1600000

theorem idx0 (x y : Int) (W : World) : (Instr.index 103 (.agg #[.int .u8 x, .int .u8 y]) (.int .i64 0)).run Tryz.prog W = .ok (.int .u8 x) W := by kernel_rfl
theorem idx1 (x y : Int) (W : World) : (Instr.index 103 (.agg #[.int .u8 x, .int .u8 y]) (.int .i64 1)).run Tryz.prog W = .ok (.int .u8 y) W := by kernel_rfl
theorem walk (w : World) (ht : Tab w) (v0 : Value) (l : List Ev) (x1 x2 : UInt8) (s0 s1 : Int) (h0 : Evs w v0 l) :
    Calls Tryz.prog 10 #[v0, .int .u8 x1.toNat, .int .u8 x2.toNat, .agg #[.int .i64 s0, .int .i64 s1]] w fun e w' => e = .returned (.bool true) ∧ Nw w w' := by
  have HT := Lib.hid ht
  have HV := Lib.hid h0
  obtain ⟨a0, c0, rfl, hl63, -⟩ := h0.elem
  have hl63 : l.length ≤ 9223372036854775807 := by unfold maxLen at hl63; omega
  clear ht h0
  obtain ⟨n, hn⟩ : ∃ n, l.length = n := ⟨_, rfl⟩
  rw [hn] at HV hl63 ⊢
  have HN := Lib.hid hn
  clear hn
  have hx1 : x1.toNat < 256 := x1.toNat_lt
  have hx2 : x2.toNat < 256 := x2.toNat_lt
  generalize x1.toNat = e1 at *
  generalize x2.toNat = e2 at *
  go_enter Tryz.func10, Tryz.ntmps10
  by_cases h120 : 120 < n
  · have q1 : decide ((120 : Int) < (n : Int)) = true := by simp; omega
    have nb := (Nw.refl w).alloc (.cells #[.int .i64 s0, .int .i64 s1] 101)
    have NB := Lib.hid nb
    clear nb
    go_wp2_with fail
    refine (awake_ok _ (HT.out.nw NB.out)).mono ?_
    rintro e w6 ⟨rfl, n6⟩
    have N6 := Lib.hid (NB.out.trans n6)
    clear n6
    go_wp2
    go_ret
    exact ⟨rfl, N6.out⟩
  have q1 : decide ((120 : Int) < (n : Int)) = false := by simp; omega
  have hA0 := heap_alloc_new w (.cells #[.int .i64 s0, .int .i64 s1] 101)
  have nA := (Nw.refl w).alloc (.cells #[.int .i64 s0, .int .i64 s1] 101)
  have hB0 := heap_alloc_new (w.alloc (.cells #[.int .i64 s0, .int .i64 s1] 101)) (.cells #[.slice none 0 0, .slice none 0 0] 102)
  have nB := (Nw.refl (w.alloc (.cells #[.int .i64 s0, .int .i64 s1] 101))).alloc (.cells #[.slice none 0 0, .slice none 0 0] 102)
  simp only [World.size_alloc] at hB0
  have HA0 := Lib.hid (nB.at_ hA0)
  have HB0 := Lib.hid hB0
  have NB := Lib.hid (nA.trans nB)
  clear hA0 nA hB0 nB
  go_wp2
  go_loopw [10] (fun i wr => ∃ (k : Nat) (t0 t1 : Value), k ≤ 2 ∧ i = .int .i64 k ∧ Nw w wr ∧ wr.heap[w.heap.size]? = some (.cells #[.int .i64 s0, .int .i64 s1] 101 (0, 0)) ∧ wr.heap[w.heap.size + 1]? = some (.cells #[t0, t1] 102 (0, 0)) ∧
    (0 < k → ∃ a c, t0 = .slice a n c ∧ Evs wr t0 l ∧ ∀ g, t0.ownBlock = some g → g ≠ w.heap.size + 1) ∧ (1 < k → ∃ a c, t1 = .slice a n c ∧ Evs wr t1 l)) (fun i _ => 2 - (intOf i).toNat)
  case atStart => exact ⟨0, _, _, by omega, rfl, NB.out, HA0.out, HB0.out, by omega, by omega⟩
  case round =>
    obtain ⟨k, t0, t1, hk, rfl, hw, hA, hB, ht0, ht1⟩ := hrel
    have HW := Lib.hid hw
    have HA := Lib.hid hA
    have HB := Lib.hid hB
    have HT0 := Lib.hid ht0
    have HT1 := Lib.hid ht1
    clear hw hA hB ht0 ht1 NB HA0 HB0
    by_cases hlt : k < 2
    case neg =>
      obtain rfl : k = 2 := by omega
      obtain ⟨ta, tc, rfl, ev0, -⟩ := HT0.out (by omega)
      obtain ⟨ua, uc, rfl, ev1⟩ := HT1.out (by omega)
      have EV0 := Lib.hid ev0
      have EV1 := Lib.hid ev1
      have hc0 : wr.cell? ⟨w.heap.size + 1, 0, none⟩ = some (.slice ta n tc) := by have := HB.out; simp [World.cell?, this]
      have hc1 : wr.cell? ⟨w.heap.size + 1, 1, none⟩ = some (.slice ua n uc) := by have := HB.out; simp [World.cell?, this]
      have hBl := lt_of_block HB.out
      clear ev0 ev1 HT0 HT1
      rw [show ((2 : Nat) : Int) = 2 from rfl]
      go_wp2_with fail
      refine (SameEvents_ok EV0.out (HV.out.nw HW.out)).mono ?_
      rintro e w1 ⟨rfl, n1⟩
      have hc1 := n1.cell hc1
      have hBl1 := Nat.lt_of_lt_of_le hBl n1.size
      have N1 := Lib.hid (HW.out.trans n1)
      have E1 := Lib.hid (EV1.out.nw n1)
      clear n1 hc0
      go_wp2_with fail
      refine (SameEvents_ok E1.out (HV.out.nw N1.out)).mono ?_
      rintro e w2 ⟨rfl, n2⟩
      have N2 := Lib.hid (N1.out.trans n2)
      clear n2
      go_wp2_with fail
      refine (awake_ok w2 (HT.out.nw N2.out)).mono ?_
      rintro e w3 ⟨rfl, n3⟩
      have N3 := Lib.hid (N2.out.trans n3)
      clear n3
      go_wp2
      go_ret
      exact ⟨rfl, N3.out⟩
    have q2 : decide ((k : Int) < 2) = true := by simp; omega
    go_upto_region 7 with fail
    go_cut [11] (fun s wx => ∃ E : Nat, 1 ≤ E ∧ E ≤ 9 ∧ s = .int .i64 E ∧ wx = wr)
    case first =>
      have hk01 : k = 0 ∨ k = 1 := by omega
      have i0 := idx0 e1 e2
      have i1 := idx1 e1 e2
      rcases hk01 with rfl | rfl
      · rw [show ((0 : Nat) : Int) = 0 from rfl]
        go_wp2_with fail
        go_meet
        case rel => exact ⟨1 + e1 % 9, by omega, by omega, by go_num, by trivial⟩
      · rw [show ((1 : Nat) : Int) = 1 from rfl]
        go_wp2_with fail
        go_meet
        case rel => exact ⟨1 + e2 % 9, by omega, by omega, by go_num, by trivial⟩
    case rest =>
      obtain ⟨E, hE1, hE2, rfl, rfl⟩ := hcut
      have hk2 : (k : Int) < 2 := by omega
      go_wp2_with fail
      refine (HasX.new 1048576 _ (by omega) (by omega)).mono ?_
      rintro e w1 ⟨b, rfl, H1⟩
      have H1 := Lib.hid H1
      obtain ⟨sk, hsk⟩ : ∃ sk : Int, w1.cell? ⟨w.heap.size, k, none⟩ = some (.int .i64 sk) := by
        have := H1.out.base.at_ HA.out
        have hk01 : k = 0 ∨ k = 1 := by omega
        rcases hk01 with rfl | rfl
        · exact ⟨s0, by simp [World.cell?, this]⟩
        · exact ⟨s1, by simp [World.cell?, this]⟩
      have hp0 := Int.emod_nonneg sk (by omega : (300 : Int) ≠ 0)
      have hp1 := Int.emod_lt_of_pos sk (by omega : (0 : Int) < 300)
      have PS := Lib.hid (fun W => Pick_ok sk 300 W (by omega) (by omega))
      obtain ⟨sz, hsz⟩ : ∃ x, sk % 300 = x := ⟨_, rfl⟩
      rw [hsz] at hp0 hp1 PS
      have hws : IntKind.i64.wrap (64 + sz) = 64 + sz := IntWalk.i64_in _ (by omega)
      obtain ⟨d0, cr, ck⟩ := Ck.new (size := 64 + sz) (by omega) (by omega)
      have CK0 := Lib.hid ck
      have HC := Create_ok H1.out (HT.out.nw HW.out) (64 + sz)
      rw [cr] at HC
      have HC := Lib.hid HC
      have HZ0 : Hid (in64 (64 + sz)) := Lib.hid ⟨by omega, by omega⟩
      have hgA : w.heap.size < w1.heap.size := Nat.lt_of_lt_of_le (lt_of_block HA.out) H1.out.base.size
      clear cr ck hsz
      go_wp2_with fail
      refine (PS.out w1).mono ?_
      rintro e w2 ⟨rfl, rfl⟩
      go_wp2_with fail
      refine HC.out.mono ?_
      rintro e w3 ⟨-, ⟨-, p, rfl, L3⟩ | ⟨hx, -⟩⟩
      case inr => exact absurd rfl hx
      have L3 := Lib.hid L3
      clear HC H1 hws hp0 hp1 PS hsk hgA
      go_wp2
      go_loopw [16] (fun i wq => ∃ (c : Nat) (d : Dsk) (L : Lg), c * E ≤ n + 8 ∧ i = .int .i64 ((c * E : Nat) : Int) ∧ Ck (64 + sz) c d L (l.take (c * E)) ∧ HasL (fun _ => False) wc wq p b d L) (fun i _ => n + 9 - (intOf i).toNat)
      case atStart => exact ⟨0, d0, _, by omega, by simp, by simpa using CK0.out, L3.out⟩
      case round =>
        obtain ⟨c, d, L, hcn, rfl, hck, hL⟩ := hrel
        have CK := Lib.hid hck
        have HL := Lib.hid hL
        clear hck hL CK0 L3
        obtain ⟨j, hj⟩ : ∃ j, c * E = j := ⟨_, rfl⟩
        have HJ := Lib.hid hj
        rw [hj] at hcn CK ⊢
        by_cases hjn : j < n
        case neg =>
          have hall : l.take j = l := List.take_of_length_le (by rw [HN.out]; omega)
          have kk := CK.out.kin
          rw [hall] at kk
          obtain ⟨A, pp, hi⟩ := CK.out.inv
          have TD := Lib.hid (told_ok HL.out.has (told_full HL.out.ok hi.calm.up kk))
          clear hall kk hi
          go_wp2_with fail
          refine TD.out.mono ?_
          rintro e w5 ⟨v5, rfl, o5⟩
          simp only [Option.isSome_some, Option.getD_some] at o5 ⊢
          have o51 := o5.1
          rw [HN.out] at o51
          obtain ⟨ya, yc, rfl, -⟩ := o51.len
          have E5 : Hid (Evs w5 (.slice ya n yc) l) := Lib.hid ⟨by rw [HN.out]; exact o51.src, HV.out.ok⟩
          have N5 := Lib.hid (HL.out.base.trans o5.2.1)
          have hsz5 := HL.out.base.size
          have hBl := lt_of_block HB.out
          have O5 : Hid (∀ g, (Value.slice ya n yc).ownBlock = some g → g ≠ w.heap.size + 1) := Lib.hid (fun g hg => by have := o5.2.2 g hg; omega)
          have B5 := N5.out.at_ HB.out
          have A5 := Lib.hid (N5.out.at_ HA.out)
          have hf5 : w5.frozen? ⟨w.heap.size + 1, k, none⟩ = false := by simp [World.frozen?, B5]
          obtain ⟨tk, hc5⟩ : ∃ tk, w5.cell? ⟨w.heap.size + 1, k, none⟩ = some tk := by
            have hk01 : k = 0 ∨ k = 1 := by omega
            rcases hk01 with rfl | rfl
            · exact ⟨t0, by simp [World.cell?, B5]⟩
            · exact ⟨t1, by simp [World.cell?, B5]⟩
          have BB5 := Lib.hid B5
          have hB5l := lt_of_block B5
          clear o5 o51 B5 CK HL TD hsz5 hBl
          go_wp2
          go_roundw
          case rel =>
            have hb6 := heap_setCell_at BB5.out k (.slice ya n yc)
            have ho : Only (fun x => x = w.heap.size + 1) w5 (w5.setCell ⟨w.heap.size + 1, k, none⟩ (.slice ya n yc)) := Only.setCell (S := fun x => x = w.heap.size + 1) (p := ⟨w.heap.size + 1, k, none⟩) (Only.refl _) (fun _ => rfl) _
            have hnw : Nw w (w5.setCell ⟨w.heap.size + 1, k, none⟩ (.slice ya n yc)) := (HW.out.trans N5.out).trans' ho (fun x hx hc => by omega)
            have hk01 : k = 0 ∨ k = 1 := by omega
            rcases hk01 with rfl | rfl
            · exact ⟨1, .slice ya n yc, t1, by omega, rfl, hnw, ho.at_ A5.out (by omega), by simpa using hb6, fun _ => ⟨ya, yc, rfl, E5.out.keep ho O5.out, O5.out⟩, fun h => absurd h (by omega)⟩
            · obtain ⟨a, cc, h1, h2, h3⟩ := HT0.out (by omega)
              exact ⟨2, t0, .slice ya n yc, by omega, rfl, hnw, ho.at_ A5.out (by omega), by simpa using hb6, fun _ => ⟨a, cc, h1, (h2.nw N5.out).keep ho h3, h3⟩, fun _ => ⟨ya, yc, rfl, E5.out.keep ho O5.out⟩⟩
          case measure => simp [intOf]; omega
        have hc120 : c < 120 := by
          have h1 : c * 1 ≤ c * E := Nat.mul_le_mul_left _ hE1
          omega
        obtain ⟨m, hm⟩ : ∃ m, min (j + E) n = m := ⟨_, rfl⟩
        have hm1 : j < m := by omega
        have hm2 : m ≤ n := by omega
        have hm3 : m - j ≤ 9 := by omega
        have hmn : min ((j : Int) + (E : Int)) (n : Int) = (m : Int) := by omega
        obtain ⟨sa, sc, t1, t2, ev⟩ := evs_lh (HV.out.nw (HW.out.trans HL.out.base)) HN.out j m (by omega) hm2
        have hlen : ((l.drop j).take (m - j)).length = m - j := by rw [List.length_take, List.length_drop, HN.out]; omega
        obtain ⟨y1, y2, y3, y4, y5, y6, y7⟩ := CK.out.facts (by omega)
        have C := LAppend_ok HL.out (HT.out.nw HW.out) ⟨by omega, by omega⟩ y5 y2 (by rw [CK.out.size]; exact HZ0.out) ev HL.out.pok
        have hadd := CK.out.add hc120 (es := (l.drop j).take (m - j)) (by omega) (by omega) ev.ok
        have hsplit : l.take j ++ (l.drop j).take (m - j) = l.take ((c + 1) * E) := by
          rw [Nat.add_mul, Nat.one_mul, hj]
          by_cases hx : j + E ≤ n
          · have : m - j = E := by omega
            rw [this, List.take_add]
          · have h1 : (l.drop j).take (m - j) = l.drop j := List.take_of_length_le (by rw [List.length_drop, HN.out]; omega)
            rw [h1, List.take_append_drop, List.take_of_length_le (by rw [HN.out]; omega)]
        rw [hsplit] at hadd
        have hwj : IntKind.i64.wrap ((j : Int) + (E : Int)) = (j : Int) + (E : Int) := IntWalk.i64_in _ (by omega)
        clear y1 y2 y3 y4 y5 y6 y7 hsplit ev hlen hm hj
        rcases hadd with ⟨d', L', ad, ck'⟩ | ⟨d', L', ad, hl100, -⟩
        · rw [ad] at C
          have C := Lib.hid C
          have CK' := Lib.hid ck'
          clear ad ck'
          go_wp2_with fail
          refine C.out.mono ?_
          rintro e w5 ⟨rfl, L5, -⟩
          have L5 := Lib.hid L5
          clear C t1 t2
          go_wp2
          go_roundw
          case rel => exact ⟨c + 1, d', L', by rw [Nat.add_mul, Nat.one_mul, HJ.out]; omega, by rw [Nat.add_mul, Nat.one_mul, HJ.out]; go_num, CK'.out, L5.out⟩
          case measure => simp [intOf]; omega
        · rw [ad] at C
          have C := Lib.hid C
          clear ad
          go_wp2_with fail
          refine C.out.mono ?_
          rintro e w5 ⟨rfl, L5, -⟩
          have L5 := Lib.hid L5
          have HL100 := Lib.hid hl100
          obtain ⟨ps, hps⟩ : ∃ x, L'.l = x := ⟨_, rfl⟩
          have HPS := Lib.hid hps
          have hpl : ps.length = 100 := by rw [← hps]; exact hl100
          clear C t1 t2 hl100 hps
          go_wp2_with fail
          refine (L5.out.pieces HPS.out (by omega)).mono ?_
          rintro e w6 ⟨v6, rfl, q1, q2, -⟩
          rw [hpl] at q1
          obtain ⟨ya, yc, rfl, -⟩ := q1.len
          have N6 := Lib.hid (HW.out.trans (L5.out.base.trans q2))
          clear q1 q2
          go_wp2_with fail
          refine (awake_ok w6 (HT.out.nw N6.out)).mono ?_
          rintro e w7 ⟨rfl, n7⟩
          have N7 := Lib.hid (N6.out.trans n7)
          clear n7
          go_wp2
          go_ret
          exact ⟨rfl, N7.out⟩
end Go.Proofs.YtoikjiojhlfgiaaGreatDoor.SeglogCuts
