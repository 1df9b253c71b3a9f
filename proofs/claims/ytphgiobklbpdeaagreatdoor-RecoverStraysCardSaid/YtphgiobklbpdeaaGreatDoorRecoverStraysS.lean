/-
  Texts merged by a program of this claim's: RecoverStrays.
-/
import Derived.Test.YtphgiobklbpdeaaGreatDoorM42
import Derived.Test.YtphgiobklbpdeaaGreatDoorM38
/-
  amanuensislaw06.RecoverStrays: files of other names say nothing; Mend removes just these.
-/
namespace Go.Proofs.YtphgiobklbpdeaaGreatDoor.RecoverStrays
open Go Go.RowKit Go.Sort
set_option maxRecDepth 100000
set_option maxHeartbeats 1600000

theorem walk (w : World) (ht : Tab w) (v0 v1 v2 : Value) (fs : List (List Ev)) (size sync : Int) (ns : List Str) (bs : List UInt8) (h0 : RdK 1 (isEvs w) w v0 fs) (h1 : Ss w v1 ns ∧ ∀ s ∈ ns, s.length ≤ 9223372036854775807) (h2 : Bs w v2 bs) :
    Calls Tryz.prog 6 #[.agg #[v0, .int .i64 size, .int .i64 sync], v1, v2] w fun e w' => e = .returned (.bool true) ∧ Nw w w' := by
  have n1 := (Nw.refl w).alloc (.cells #[v0, .int .i64 size, .int .i64 sync] 51)
  have b1 := heap_alloc_new w (.cells #[v0, .int .i64 size, .int .i64 sync] 51)
  have y0 := cell_of b1 (i := 0) rfl
  have y1 := cell_of b1 (i := 1) rfl
  have y2 := cell_of b1 (i := 2) rfl
  have hbl := lt_of_block b1
  have HT0 := Lib.hid ht
  have C1 := Lib.hid (built_ok _ (ht.nw n1) v0 fs size sync (frames_nw h0 n1))
  have HNS := Lib.hid h1.1
  have HBS := Lib.hid h2
  have N1 := Lib.hid n1
  have hmm := @run_makeMap Tryz.prog
  obtain ⟨a0, c0, rfl, -⟩ := h0.len
  obtain ⟨a1, c1, rfl, -, hnl, hne⟩ := h1.1.elems
  obtain ⟨a2, c2, rfl, -⟩ := h2.len
  have HNE := Lib.hid hne
  obtain ⟨nf, hnf⟩ : ∃ n, fs.length = n := ⟨_, rfl⟩
  obtain ⟨nn, hnn⟩ : ∃ n, ns.length = n := ⟨_, rfl⟩
  obtain ⟨nb, hnb⟩ : ∃ n, bs.length = n := ⟨_, rfl⟩
  rw [hnf] at C1 n1 b1 y0 y1 y2 hbl N1 ⊢
  rw [hnn] at HNS ⊢
  rw [hnb] at HBS ⊢
  have HNN := Lib.hid hnn
  have HNB := Lib.hid hnb
  clear ht h0 h1 h2 n1 b1 hnf hnn hnb hne hnl
  go_enter Tryz.func6, Tryz.ntmps6
  go_wp2_with fail
  refine C1.out.mono ?_
  rintro e w2 ⟨b, v2, d, L, all, c, rfl, B2⟩
  obtain ⟨va, vc, rfl, -⟩ := B2.evs.len
  have BT := Lib.hid B2.bt
  have A2 : Hid (Evs w2 (.slice va all.length vc) all) := Lib.hid ⟨B2.evs.src, B2.ok⟩
  obtain ⟨X, hX⟩ : ∃ X : Nat → Prop, X = fun k => (Value.slice va all.length vc).ownBlock = some k := ⟨_, rfl⟩
  have H2 : Hid (HasX X w w2 b d) := Lib.hid (by rw [hX]; exact B2.disk.rebase N1.out)
  have HX : Hid (∀ g, (Value.slice va all.length vc).ownBlock = some g → X g) := Lib.hid (by rw [hX]; exact fun g h => h)
  clear B2 C1 y0 y1 y2 hbl hX
  obtain ⟨⟨gd, sc⟩, dn, -⟩ := BT.out.scanned
  obtain ⟨ps, hps⟩ : ∃ x, L.l = x := ⟨_, rfl⟩
  rw [hps] at sc
  have HPS := Lib.hid hps
  clear hps hmm
  go_wp2_with fail
  refine (Scan_ok H2.out dn sc).mono ?_
  rintro e w3 ⟨v3, p3, rfl, o1, o2⟩
  obtain ⟨xa, xc, rfl, -⟩ := o1.1.len
  obtain ⟨ya, yc, rfl, -⟩ := o2.1.len
  have E3 : Hid (Evs w3 (.slice xa all.length xc) all) := Lib.hid ⟨o1.1.src, A2.out.ok⟩
  have P3 := Lib.hid o2.pcs
  have FP := Lib.hid (And.intro o2.2.2.2 o2.1.lt)
  have N3 := Lib.hid o1.2.1
  have A3 := Lib.hid (A2.out.nw o1.2.1)
  clear o1 o2 sc dn
  go_wp2_with fail
  refine (SameEvents_ok E3.out A3.out).mono ?_
  rintro e w4 ⟨rfl, n4⟩
  have N4 := Lib.hid (N3.out.trans n4)
  have P4 := Lib.hid (P3.out.nw n4)
  have A4 := Lib.hid (A3.out.nw n4)
  have FP4 : Hid ((∀ g, (Value.slice ya ps.length yc).ownBlock = some g → w2.heap.size ≤ g ∧ g < w4.heap.size)) := Lib.hid (fun g hg => ⟨FP.out.1 g hg, Nat.lt_of_lt_of_le (FP.out.2 g hg) n4.size⟩)
  clear n4 E3 A3 P3 N3 FP
  by_cases h100 : 100 < nb
  case pos =>
    have q1 : decide ((100 : Int) < (nb : Int)) = true := by simp; omega
    go_wp2_with fail
    refine (awake6_ok w4 (HT0.out.nw (H2.out.base.trans N4.out))).mono ?_
    rintro e w5 ⟨rfl, n5⟩
    have N5 := Lib.hid ((H2.out.base.trans N4.out).trans n5)
    clear n5
    go_wp2
    go_ret
    exact ⟨rfl, N5.out⟩
  have q1 : decide ((100 : Int) < (nb : Int)) = false := by simp; omega
  obtain ⟨dl, hdl⟩ : ∃ x, d.list = x := ⟨_, rfl⟩
  have HDL := Lib.hid hdl
  obtain ⟨nd, hnd⟩ : ∃ x, dl.length = x := ⟨_, rfl⟩
  have HND := Lib.hid hnd
  have hnd200 : nd ≤ 1000 := by
    have h1 := H2.out.ok.few
    rw [← hnd, ← hdl]
    simp only [Dsk.list, List.length_mergeSort, namesF, List.length_map]
    omega
  clear hdl hnd
  go_wp2_with fail
  refine ((H2.out.nw N4.out).list HDL.out).mono ?_
  rintro e w5 ⟨v5, rfl, s5, n5, f5⟩
  obtain ⟨da, dc, rfl, -, -, hde⟩ := s5.elems
  rw [HND.out] at s5 f5 ⊢
  have S5 := Lib.hid s5
  have N5 := Lib.hid (N4.out.trans n5)
  have DE := Lib.hid hde
  have FS : Hid (dl ≠ [] → ∀ g, (Value.slice da nd dc).ownBlock = some g → w2.heap.size ≤ g ∧ g < w5.heap.size) := Lib.hid (fun hne g hg => ⟨Nat.le_trans N4.out.size (f5 g hg), s5.lt hne g hg⟩)
  have FP5 : Hid ((∀ g, (Value.slice ya ps.length yc).ownBlock = some g → w2.heap.size ≤ g ∧ g < w5.heap.size)) := Lib.hid (fun g hg => ⟨(FP4.out g hg).1, Nat.lt_of_lt_of_le (FP4.out g hg).2 n5.size⟩)
  have A5 := Lib.hid (A4.out.nw n5)
  have P5 := Lib.hid (P4.out.nw n5)
  have hmm := @run_makeMap Tryz.prog
  have F6 : Names (w5.alloc (.map #[] 0)) w5.heap.size [] := ⟨[], 0, heap_alloc_new w5 _, (fun e he => by cases he), fun k => by simp⟩
  have NM6 := Lib.hid F6
  have NA := Lib.hid ((Nw.refl w5).alloc (.map #[] 0))
  clear s5 n5 f5 hde F6 A4 P4
  go_wp2
  go_loopw [15] (fun i wr => ∃ j : Nat, j ≤ nd ∧ i = .int .i64 j ∧ Nw w5 wr ∧ ∃ S, Names wr w5.heap.size S ∧ ∀ k, k ∈ S ↔ k ∈ dl.take j) (fun i _ => nd - (intOf i).toNat)
  case atStart => exact ⟨0, by omega, rfl, NA.out, _, NM6.out, fun k => by simp⟩
  case round =>
    obtain ⟨j, hj, rfl, hN, S, hS, hin⟩ := hrel
    have HN := Lib.hid hN
    have HS := Lib.hid hS
    have HIN := Lib.hid hin
    clear hN hS hin hmm NM6 NA
    by_cases hlt : j < nd
    case pos =>
      have hkl : j < dl.length := by rw [HND.out]; exact hlt
      obtain ⟨g, o, rfl, hg, x0⟩ := DE.out j hkl
      have x0 := HN.out.cell x0
      have hg := Nat.lt_of_lt_of_le hg HN.out.size
      obtain ⟨n, hn⟩ : ∃ n, dl[j] = n := ⟨_, rfl⟩
      rw [hn] at x0
      have x0 : wr.cell? ⟨g, o + j, none⟩ = some (.string ⟨n.toArray⟩) := x0
      have hml := HS.out.lt
      obtain ⟨W2, hput, nw2, on2, nm2⟩ := names_put HS.out n HN.out (Nat.le_refl _)
      have N7 := Lib.hid nw2
      have NM7 := Lib.hid nm2
      have HIN7 : Hid (∀ k, k ∈ n :: S ↔ k ∈ dl.take (j + 1)) := Lib.hid (fun k => by
        rw [List.take_succ_eq_append_getElem hkl, hn, List.mem_append, List.mem_cons, HIN.out k, List.mem_singleton]
        exact or_comm)
      clear nw2 on2 nm2 hn
      go_wp2_with fail
      go_roundw
      case rel => exact ⟨j + 1, by omega, by go_num, N7.out, _, NM7.out, HIN7.out⟩
      case measure => simp [intOf]; omega
    obtain rfl : j = nd := by omega
    obtain ⟨wA, hwA⟩ : ∃ W, W = wr := ⟨_, rfl⟩
    rw [← hwA] at HN HS ⊢
    clear hwA
    obtain ⟨m, hm⟩ : ∃ m, w5.heap.size = m := ⟨_, rfl⟩
    have HSIZ : Hid (m < wA.heap.size ∧ w2.heap.size ≤ m) := Lib.hid (by have h1 := HS.out.lt; have h2 := N5.out.size; omega)
    rw [hm] at HS ⊢
    obtain ⟨Y, hY⟩ : ∃ Y : Nat → Prop, Y = fun k => X k ∨ w2.heap.size ≤ k ∧ k < wA.heap.size := ⟨_, rfl⟩
    have HA : Hid (HasX Y w wA b d) := Lib.hid (H2.out.nwY (N5.out.trans HN.out) fun k hk => by rw [hY] at hk; exact hk)
    have HY : Hid ((∀ g, (Value.slice va all.length vc).ownBlock = some g → Y g) ∧ (∀ g, (Value.slice ya ps.length yc).ownBlock = some g → Y g) ∧ (dl ≠ [] → ∀ g, (Value.slice da j dc).ownBlock = some g → Y g) ∧ Y m) := Lib.hid (by
      rw [hY]
      exact ⟨fun g hg => .inl (HX.out g hg), fun g hg => .inr ⟨(FP5.out g hg).1, Nat.lt_of_lt_of_le (FP5.out g hg).2 HN.out.size⟩, fun hne g hg => .inr ⟨(FS.out hne g hg).1, Nat.lt_of_lt_of_le (FS.out hne g hg).2 HN.out.size⟩, .inr ⟨HSIZ.out.2, HSIZ.out.1⟩⟩)
    have HINS : Hid (∀ k, k ∈ S ↔ k ∈ namesF d.files) := Lib.hid (fun k => by
      rw [HIN.out k, List.take_of_length_le (by rw [HND.out]; exact Nat.le_refl _), ← HDL.out, mem_list])
    have AA := Lib.hid (A5.out.nw HN.out)
    have PA := Lib.hid (P5.out.nw HN.out)
    have SA := Lib.hid (S5.out.keep HN.out (fun _ _ _ hf => hf))
    have ST0 : Hid (Stray d d) := Lib.hid (Stray.refl BT.out.calm)
    clear hY hm HIN FS FP4 FP5 A5 P5 S5
    go_wp2
    go_loopw [16] (fun i wr => ∃ (k : Nat) (d' : Dsk), k ≤ 10 ∧ i = .int .i64 k ∧ Stray d d' ∧ HasX Y w wr b d' ∧ Kept Y wA wr) (fun i _ => 10 - (intOf i).toNat)
    case atStart => exact ⟨0, d, by omega, rfl, ST0.out, HA.out, Kept.refl _⟩
    case round =>
      obtain ⟨k, d', hk, rfl, hst, hD, hK⟩ := hrel
      have HST := Lib.hid hst
      have HD := Lib.hid hD
      have HK := Lib.hid hK
      clear hst hD hK HA ST0
      by_cases hgo : k < nn ∧ k < 10
      case neg =>
        have hfin : (nn ≤ k) ∨ (k < nn ∧ 10 ≤ k) := by omega
        obtain ⟨⟨gd2, sc2⟩, dn2, d2, ps2, me2, hl2⟩ := BT.out.strays HST.out
        rw [HPS.out] at sc2
        have SC2 := Lib.hid sc2
        have DN2 := Lib.hid dn2
        have ME2 := Lib.hid me2
        have HL2 : Hid (d2.list = dl) := Lib.hid (hl2.trans HDL.out)
        have AB := Lib.hid (AA.out.kept HK.out HY.out.1)
        have PB := Lib.hid (PA.out.kept HK.out HY.out.2.1)
        have SB := Lib.hid (SA.out.kept HK.out HY.out.2.2.1)
        clear sc2 dn2 me2 hl2 hgo
        rcases hfin with h | ⟨hk1, h⟩
        case inl =>
          have hk1 : ¬ k < nn := by omega
          clear h
          go_wp2_with fail
          refine (Scan_ok HD.out DN2.out SC2.out).mono ?_
          rintro e w7 ⟨v7, p7, rfl, o1, o2⟩
          obtain ⟨xa2, xc2, rfl, -⟩ := o1.1.len
          obtain ⟨ya2, yc2, rfl, -⟩ := o2.1.len
          have U7 : Hid (Evs w7 (.slice xa2 all.length xc2) all) := Lib.hid ⟨o1.1.src, AB.out.ok⟩
          have Q7 := Lib.hid o2.pcs
          obtain ⟨Y2, hY2⟩ : ∃ Y2 : Nat → Prop, Y2 = fun k => Y k ∨ wr.heap.size ≤ k ∧ k < w7.heap.size := ⟨_, rfl⟩
          have H7 : Hid (HasX Y2 w w7 b d') := Lib.hid (HD.out.nwY o1.2.1 fun k hk => by rw [hY2] at hk; exact hk)
          have HY2 : Hid ((∀ k, Y k → Y2 k) ∧ (∀ g, (Value.slice xa2 all.length xc2).ownBlock = some g → Y2 g) ∧ (∀ g, (Value.slice ya2 ps.length yc2).ownBlock = some g → Y2 g)) := Lib.hid (by
            rw [hY2]
            exact ⟨fun k h => .inl h, fun g hg => .inr ⟨o1.2.2 g hg, o1.1.lt g hg⟩, fun g hg => .inr ⟨o2.2.2.2 g hg, o2.1.lt g hg⟩⟩)
          have A7 := Lib.hid (AB.out.nw o1.2.1)
          have P7 := Lib.hid (PB.out.nw o1.2.1)
          have S7 := Lib.hid (SB.out.keep o1.2.1 (fun _ _ _ hf => hf))
          clear o1 o2 hY2
          go_wp2_with fail
          refine (Mend_ok H7.out DN2.out ME2.out).mono ?_
          rintro e w8 ⟨v8, p8, rfl, t8⟩
          obtain ⟨ma, mc, rfl, -⟩ := t8.evs.len
          obtain ⟨na, nc, rfl, -⟩ := t8.pcs.len
          have H8 := Lib.hid t8.disk
          have A8 := Lib.hid (A7.out.kept t8.kept fun g hg => HY2.out.1 g (HY.out.1 g hg))
          have P8 := Lib.hid (P7.out.kept t8.kept fun g hg => HY2.out.1 g (HY.out.2.1 g hg))
          have S8 := Lib.hid (S7.out.kept t8.kept fun hne g hg => HY2.out.1 g (HY.out.2.2.1 hne g hg))
          have U8 := Lib.hid (U7.out.kept t8.kept HY2.out.2.1)
          have Q8 := Lib.hid (Q7.out.kept t8.kept HY2.out.2.2)
          clear t8 H7 A7 P7 S7 U7 Q7
          go_wp2_with fail
          refine (SameEvents_ok U8.out A8.out).mono ?_
          rintro e w9 ⟨rfl, n9⟩
          have N9 := Lib.hid n9
          go_wp2_with fail
          refine (SamePieces_ok (P8.out.nw N9.out) (Q8.out.nw N9.out)).mono ?_
          rintro e w10 ⟨rfl, n10⟩
          have N10 := Lib.hid (N9.out.trans n10)
          go_wp2_with fail
          refine ((H8.out.nw N10.out).list HL2.out).mono ?_
          rintro e w11 ⟨v11, rfl, s11, n11, -⟩
          obtain ⟨la5, lc5, rfl, -⟩ := s11.len
          have S11 := Lib.hid s11
          have N11 := Lib.hid (N10.out.trans n11)
          go_wp2_with fail
          refine (SameTexts_ok S11.out (S8.out.keep N11.out (fun _ _ _ hf => hf))).mono ?_
          rintro e w12 ⟨rfl, n12⟩
          have N12 := Lib.hid (H8.out.base.trans (N11.out.trans n12))
          have hsame : (dl == dl) = true := by simp
          rw [hsame]
          clear n9 n10 n11 n12 s11 N9 N10 N11 hsame
          go_wp2_with fail
          refine (awake6_ok w12 (HT0.out.nw N12.out)).mono ?_
          rintro e w13 ⟨rfl, n13⟩
          have N13 := Lib.hid (N12.out.trans n13)
          clear n13
          go_wp2
          go_ret
          exact ⟨rfl, N13.out⟩
        case inr =>
          have hk2 : ¬ k < 10 := by omega
          clear h
          go_wp2_with fail
          refine (Scan_ok HD.out DN2.out SC2.out).mono ?_
          rintro e w7 ⟨v7, p7, rfl, o1, o2⟩
          obtain ⟨xa2, xc2, rfl, -⟩ := o1.1.len
          obtain ⟨ya2, yc2, rfl, -⟩ := o2.1.len
          have U7 : Hid (Evs w7 (.slice xa2 all.length xc2) all) := Lib.hid ⟨o1.1.src, AB.out.ok⟩
          have Q7 := Lib.hid o2.pcs
          obtain ⟨Y2, hY2⟩ : ∃ Y2 : Nat → Prop, Y2 = fun k => Y k ∨ wr.heap.size ≤ k ∧ k < w7.heap.size := ⟨_, rfl⟩
          have H7 : Hid (HasX Y2 w w7 b d') := Lib.hid (HD.out.nwY o1.2.1 fun k hk => by rw [hY2] at hk; exact hk)
          have HY2 : Hid ((∀ k, Y k → Y2 k) ∧ (∀ g, (Value.slice xa2 all.length xc2).ownBlock = some g → Y2 g) ∧ (∀ g, (Value.slice ya2 ps.length yc2).ownBlock = some g → Y2 g)) := Lib.hid (by
            rw [hY2]
            exact ⟨fun k h => .inl h, fun g hg => .inr ⟨o1.2.2 g hg, o1.1.lt g hg⟩, fun g hg => .inr ⟨o2.2.2.2 g hg, o2.1.lt g hg⟩⟩)
          have A7 := Lib.hid (AB.out.nw o1.2.1)
          have P7 := Lib.hid (PB.out.nw o1.2.1)
          have S7 := Lib.hid (SB.out.keep o1.2.1 (fun _ _ _ hf => hf))
          clear o1 o2 hY2
          go_wp2_with fail
          refine (Mend_ok H7.out DN2.out ME2.out).mono ?_
          rintro e w8 ⟨v8, p8, rfl, t8⟩
          obtain ⟨ma, mc, rfl, -⟩ := t8.evs.len
          obtain ⟨na, nc, rfl, -⟩ := t8.pcs.len
          have H8 := Lib.hid t8.disk
          have A8 := Lib.hid (A7.out.kept t8.kept fun g hg => HY2.out.1 g (HY.out.1 g hg))
          have P8 := Lib.hid (P7.out.kept t8.kept fun g hg => HY2.out.1 g (HY.out.2.1 g hg))
          have S8 := Lib.hid (S7.out.kept t8.kept fun hne g hg => HY2.out.1 g (HY.out.2.2.1 hne g hg))
          have U8 := Lib.hid (U7.out.kept t8.kept HY2.out.2.1)
          have Q8 := Lib.hid (Q7.out.kept t8.kept HY2.out.2.2)
          clear t8 H7 A7 P7 S7 U7 Q7
          go_wp2_with fail
          refine (SameEvents_ok U8.out A8.out).mono ?_
          rintro e w9 ⟨rfl, n9⟩
          have N9 := Lib.hid n9
          go_wp2_with fail
          refine (SamePieces_ok (P8.out.nw N9.out) (Q8.out.nw N9.out)).mono ?_
          rintro e w10 ⟨rfl, n10⟩
          have N10 := Lib.hid (N9.out.trans n10)
          go_wp2_with fail
          refine ((H8.out.nw N10.out).list HL2.out).mono ?_
          rintro e w11 ⟨v11, rfl, s11, n11, -⟩
          obtain ⟨la5, lc5, rfl, -⟩ := s11.len
          have S11 := Lib.hid s11
          have N11 := Lib.hid (N10.out.trans n11)
          go_wp2_with fail
          refine (SameTexts_ok S11.out (S8.out.keep N11.out (fun _ _ _ hf => hf))).mono ?_
          rintro e w12 ⟨rfl, n12⟩
          have N12 := Lib.hid (H8.out.base.trans (N11.out.trans n12))
          have hsame : (dl == dl) = true := by simp
          rw [hsame]
          clear n9 n10 n11 n12 s11 N9 N10 N11 hsame
          go_wp2_with fail
          refine (awake6_ok w12 (HT0.out.nw N12.out)).mono ?_
          rintro e w13 ⟨rfl, n13⟩
          have N13 := Lib.hid (N12.out.trans n13)
          clear n13
          go_wp2
          go_ret
          exact ⟨rfl, N13.out⟩
      have hk1 : k < nn := hgo.1
      have hk2 : k < 10 := hgo.2
      have hkl : k < ns.length := by rw [HNN.out]; exact hk1
      obtain ⟨g, o, rfl, hg, x0⟩ := HNE.out k hkl
      have x0 := HD.out.base.cell x0
      have hg := Nat.lt_of_lt_of_le hg HD.out.base.size
      obtain ⟨n, hn⟩ : ∃ n, ns[k] = n := ⟨_, rfl⟩
      rw [hn] at x0
      have x0 : wr.cell? ⟨g, o + k, none⟩ = some (.string ⟨n.toArray⟩) := x0
      by_cases h60 : n.length ≤ 60
      case neg =>
        have q4 : decide ((n.length : Int) ≤ 60) = false := by simp; omega
        go_wp2_with fail
        go_roundw
        case rel => exact ⟨k + 1, d', by omega, by go_num, HST.out, HD.out, HK.out⟩
        case measure => simp [intOf]; omega
      have q4 : decide ((n.length : Int) ≤ 60) = true := by simp; omega
      have NM := Lib.hid (HS.out.kept HK.out HY.out.2.2.2)
      by_cases hin : n ∈ namesF d.files
      case pos =>
        have hget := names_get NM.out ((HINS.out n).2 hin)
        go_wp2_with fail
        go_roundw
        case rel => exact ⟨k + 1, d', by omega, by go_num, HST.out, HD.out, HK.out⟩
        case measure => simp [intOf]; omega
      have hget := names_none NM.out (fun hc => hin ((HINS.out n).1 hc))
      obtain ⟨⟨d3, x3⟩, hap⟩ : ∃ r, d'.append n bs = r := ⟨_, rfl⟩
      have hst3 := HST.out.append hin (b := bs)
      rw [hap] at hst3
      have HST3 := Lib.hid hst3
      have C := Lib.hid (HD.out.append n bs _ (HBS.out.nw HD.out.base) (fun hne g hg => .inr (HBS.out.lt hne g hg)) (by omega) (by rw [HNB.out]; omega) hap)
      clear hap hst3 hn
      go_wp2_with fail
      refine C.out.mono ?_
      rintro e w9 ⟨rfl, h9, k9⟩
      have H9 := Lib.hid h9
      have K9 := Lib.hid (HK.out.trans k9)
      clear h9 k9 C x0 hget
      go_wp2_with fail
      go_roundw
      case rel => exact ⟨k + 1, d3, by omega, by go_num, HST3.out, H9.out, K9.out⟩
      case measure => simp [intOf]; omega
end Go.Proofs.YtphgiobklbpdeaaGreatDoor.RecoverStrays
