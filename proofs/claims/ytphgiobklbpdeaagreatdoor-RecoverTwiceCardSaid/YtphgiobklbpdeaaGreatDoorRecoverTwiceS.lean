/-
  Texts merged by a program of this claim's: RecoverTwice.
-/
import Derived.Test.YtphgiobklbpdeaaGreatDoorM34
import Derived.Test.YtphgiobklbpdeaaGreatDoorM38
/-
  amanuensislaw06.RecoverTwice: Scan changes nothing, and tells the same each time; a second Mend changes nothing.
-/
namespace Go.Proofs.YtphgiobklbpdeaaGreatDoor.RecoverTwice
open Go Go.RowKit Go.Sort
set_option maxRecDepth 100000
set_option maxHeartbeats 1600000

theorem walk (w : World) (ht : Tab w) (v0 v1 : Value) (fs : List (List Ev)) (size sync : Int) (ks : List Int) (h0 : RdK 1 (isEvs w) w v0 fs) (h1 : Rd i64v w v1 ks) :
    Calls Tryz.prog 7 #[.agg #[v0, .int .i64 size, .int .i64 sync], v1] w fun e w' => e = .returned (.bool true) ∧ Nw w w' := by
  have n1 := (Nw.refl w).alloc (.cells #[v0, .int .i64 size, .int .i64 sync] 51)
  have b1 := heap_alloc_new w (.cells #[v0, .int .i64 size, .int .i64 sync] 51)
  have y0 := cell_of b1 (i := 0) rfl
  have y1 := cell_of b1 (i := 1) rfl
  have y2 := cell_of b1 (i := 2) rfl
  have hbl := lt_of_block b1
  have HT0 := Lib.hid ht
  have HT := Lib.hid (ht.nw n1)
  have C1 := Lib.hid (built_ok _ (ht.nw n1) v0 fs size sync (frames_nw h0 n1))
  have HK := Lib.hid h1
  have N1 := Lib.hid n1
  obtain ⟨a0, c0, rfl, -⟩ := h0.len
  obtain ⟨a1, c1, rfl, -⟩ := h1.len
  obtain ⟨nf, hnf⟩ : ∃ n, fs.length = n := ⟨_, rfl⟩
  obtain ⟨nk, hnk⟩ : ∃ n, ks.length = n := ⟨_, rfl⟩
  rw [hnf] at C1 n1 b1 y0 y1 y2 hbl HT N1 ⊢
  rw [hnk] at HK ⊢
  clear ht h0 h1 n1 b1 hnf hnk
  go_enter Tryz.func7, Tryz.ntmps7
  go_wp2_with fail
  refine C1.out.mono ?_
  rintro e w2 ⟨b, v2, d, L, all, c, rfl, B2⟩
  obtain ⟨va, vc, rfl, -⟩ := B2.evs.len
  have BT := Lib.hid B2.bt
  have OK := Lib.hid B2.ok
  have H2 := Lib.hid ((B2.disk.weak (Y := fun _ => False) fun k hk => hk.elim).rebase N1.out)
  clear B2 C1 y0 y1 y2 hbl
  by_cases h300 : 300 < nk
  case pos =>
    have q1 : decide ((300 : Int) < (nk : Int)) = true := by simp; omega
    go_wp2_with fail
    refine (awake6_ok w2 (HT0.out.nw H2.out.base)).mono ?_
    rintro e w3 ⟨rfl, n3⟩
    have N3 := Lib.hid (H2.out.base.trans n3)
    clear n3
    go_wp2
    go_ret
    exact ⟨rfl, N3.out⟩
  have q1 : decide ((300 : Int) < (nk : Int)) = false := by simp; omega
  go_wp2_with fail
  refine (H2.out.crash (d' := d.crash ks) _ ks (HK.out.nw H2.out.base) (fun hne g hg => .inr (HK.out.lt hne g hg)) rfl).mono ?_
  rintro e w3 ⟨rfl, H3, -⟩
  obtain ⟨i, -, -, hc1, hrt⟩ := BT.out.crashed H2.out.ok ks
  obtain ⟨d1, hd1⟩ : ∃ x, d.crash ks = x := ⟨_, rfl⟩
  rw [hd1] at H3 hc1 hrt
  obtain ⟨told, htold⟩ : ∃ x, all.take i = x := ⟨_, rfl⟩
  rw [htold] at hrt
  have hok : ∀ e ∈ told, e.Ok := fun e he => OK.out e (List.mem_of_mem_take (htold ▸ he))
  obtain ⟨ps1, g1, sc1⟩ := hrt.scanned hc1.up
  have dn1 := hrt.den0 hc1.up
  obtain ⟨d2, ps2, me1, hc2, -, hrt2, me2⟩ := hrt.mended hc1
  obtain ⟨ps3, g3, sc2⟩ := hrt2.scanned hc2.up
  have dn2 := hrt2.den0 hc2.up
  have H3 := Lib.hid H3
  have OKT := Lib.hid hok
  have SC1 := Lib.hid sc1
  have DN1 := Lib.hid dn1
  have ME1 := Lib.hid me1
  have SC2 := Lib.hid sc2
  have DN2 := Lib.hid dn2
  have ME2 := Lib.hid me2
  clear hd1 htold hok sc1 dn1 me1 sc2 dn2 me2 hc1 hc2 hrt hrt2 BT OK H2
  -- sizes and names
  go_wp2_with fail
  refine (sizes_ok H3.out).mono ?_
  rintro e w4 ⟨v4, rfl, z4, n4, f4⟩
  obtain ⟨za, zc, rfl, -⟩ := z4.len
  have Z4 := Lib.hid z4
  have H4 := Lib.hid (H3.out.nw n4)
  have N4 := Lib.hid n4
  have F4 := Lib.hid f4
  clear z4 n4 f4
  obtain ⟨dl, hdl⟩ : ∃ x, d1.list = x := ⟨_, rfl⟩
  have HDL := Lib.hid hdl
  clear hdl
  go_wp2_with fail
  refine (H4.out.list HDL.out).mono ?_
  rintro e w5 ⟨v5, rfl, s5, n5, -⟩
  obtain ⟨la, lc, rfl, -⟩ := s5.len
  have S5 := Lib.hid s5
  have Z5 := Lib.hid (Z4.out.nw n5)
  have H5 := Lib.hid (H4.out.nw n5)
  have N5 := Lib.hid (N4.out.trans n5)
  clear s5 n5 Z4 H4 N4
  go_wp2_with fail
  refine (Scan_ok H5.out DN1.out SC1.out).mono ?_
  rintro e w6 ⟨v6, p6, rfl, o1, o2⟩
  obtain ⟨xa, xc, rfl, -⟩ := o1.1.len
  obtain ⟨ya, yc, rfl, -⟩ := o2.1.len
  have A6 : Hid (Evs w6 (.slice xa told.length xc) told) := Lib.hid ⟨o1.1.src, OKT.out⟩
  have P6 := Lib.hid o2.pcs
  have FA : Hid (∀ g, (Value.slice xa told.length xc).ownBlock = some g → w3.heap.size ≤ g) := Lib.hid (fun g hg => Nat.le_trans N5.out.size (o1.2.2 g hg))
  have LA := Lib.hid o1.1.lt
  have H6 := Lib.hid (H5.out.nw o1.2.1)
  have S6 := Lib.hid (S5.out.keep o1.2.1 (fun _ _ _ hf => hf))
  have Z6 := Lib.hid (Z5.out.nw o1.2.1)
  have N6 := Lib.hid (N5.out.trans o1.2.1)
  clear o1 o2 H5 S5 Z5 N5
  go_wp2_with fail
  refine (Scan_ok H6.out DN1.out SC1.out).mono ?_
  rintro e w7 ⟨v7, p7, rfl, o1, o2⟩
  obtain ⟨xa2, xc2, rfl, -⟩ := o1.1.len
  obtain ⟨ya2, yc2, rfl, -⟩ := o2.1.len
  have A7 := Lib.hid (A6.out.nw o1.2.1)
  have LA7 : Hid (∀ g, (Value.slice xa told.length xc).ownBlock = some g → g < w7.heap.size) := Lib.hid (fun g hg => Nat.lt_of_lt_of_le (LA.out g hg) o1.2.1.size)
  have B7 : Hid (Evs w7 (.slice xa2 told.length xc2) told) := Lib.hid ⟨o1.1.src, OKT.out⟩
  have P7 := Lib.hid (P6.out.nw o1.2.1)
  have Q7 := Lib.hid o2.pcs
  have H7 := Lib.hid (H6.out.nw o1.2.1)
  have S7 := Lib.hid (S6.out.keep o1.2.1 (fun _ _ _ hf => hf))
  have Z7 := Lib.hid (Z6.out.nw o1.2.1)
  have N7 := Lib.hid (N6.out.trans o1.2.1)
  clear o1 o2 H6 S6 Z6 N6 A6 P6
  go_wp2_with fail
  refine (SameEvents_ok A7.out B7.out).mono ?_
  rintro e w8 ⟨rfl, n8⟩
  have N8 := Lib.hid n8
  go_wp2_with fail
  refine (SamePieces_ok (P7.out.nw N8.out) (Q7.out.nw N8.out)).mono ?_
  rintro e w9 ⟨rfl, n9⟩
  have N9 := Lib.hid (N8.out.trans n9)
  go_wp2_with fail
  refine (sizes_ok (H7.out.nw N9.out)).mono ?_
  rintro e w10 ⟨v10, rfl, z10, n10, -⟩
  obtain ⟨za2, zc2, rfl, -⟩ := z10.len
  have Z10 := Lib.hid z10
  have N10 := Lib.hid (N9.out.trans n10)
  go_wp2_with fail
  refine (sameInts_ok Z10.out.rd (Z7.out.nw N10.out).rd).mono ?_
  rintro e w11 ⟨rfl, n11⟩
  have N11 := Lib.hid (N10.out.trans n11)
  go_wp2_with fail
  refine ((H7.out.nw N11.out).list HDL.out).mono ?_
  rintro e w12 ⟨v12, rfl, s12, n12, -⟩
  obtain ⟨la2, lc2, rfl, -⟩ := s12.len
  have N12 := Lib.hid (N11.out.trans n12)
  have S12 := Lib.hid s12
  go_wp2_with fail
  refine (SameTexts_ok S12.out (S7.out.keep N12.out (fun _ _ _ hf => hf))).mono ?_
  rintro e w13 ⟨rfl, n13⟩
  have N13 := Lib.hid (N12.out.trans n13)
  have hsame : (dl == dl) = true := by simp
  rw [hsame]
  obtain ⟨Y, hY⟩ : ∃ Y : Nat → Prop, Y = fun k => w3.heap.size ≤ k ∧ k < w13.heap.size := ⟨_, rfl⟩
  have H13 : Hid (HasX Y w w13 b d1) := Lib.hid (H3.out.nwY (N7.out.trans N13.out) fun k hk => by rw [hY] at hk; exact .inr hk)
  have A13 := Lib.hid (A7.out.nw N13.out)
  have HYA : Hid (∀ g, (Value.slice xa told.length xc).ownBlock = some g → Y g) := Lib.hid (fun g hg => by
    rw [hY]
    exact ⟨FA.out g hg, Nat.lt_of_lt_of_le (LA7.out g hg) N13.out.size⟩)
  clear n8 n9 n10 n11 n12 n13 z10 s12 N8 N9 N10 N11 N12 hsame hY A7 B7 P7 Q7 H7 S7 Z7 Z10 S12
  go_wp2_with fail
  refine (Mend_ok H13.out DN1.out ME1.out).mono ?_
  rintro e w14 ⟨v14, p14, rfl, t14⟩
  obtain ⟨ma, mc, rfl, -⟩ := t14.evs.len
  obtain ⟨na, nc, rfl, -⟩ := t14.pcs.len
  have H14 := Lib.hid t14.disk
  have A14 := Lib.hid (A13.out.kept t14.kept HYA.out)
  have C14 : Hid (Evs w14 (.slice ma told.length mc) told) := Lib.hid ⟨t14.evs.src, OKT.out⟩
  clear t14 A13 H13
  obtain ⟨Y2, hY2⟩ : ∃ Y2 : Nat → Prop, Y2 = fun k => Y k ∨ (Value.slice ma told.length mc).ownBlock = some k ∨ (Value.slice na ps2.length nc).ownBlock = some k := ⟨_, rfl⟩
  rw [← hY2] at H14
  have HY2 : Hid ((∀ g, (Value.slice xa told.length xc).ownBlock = some g → Y2 g) ∧ (∀ g, (Value.slice ma told.length mc).ownBlock = some g → Y2 g)) := Lib.hid (by rw [hY2]; exact ⟨fun g hg => .inl (HYA.out g hg), fun g hg => .inr (.inl hg)⟩)
  clear hY2
  go_wp2_with fail
  refine (sizes_ok H14.out).mono ?_
  rintro e w15 ⟨v15, rfl, z15, n15, f15⟩
  obtain ⟨za3, zc3, rfl, -⟩ := z15.len
  have Z15 := Lib.hid z15
  have H15 := Lib.hid (H14.out.nw n15)
  have N15 := Lib.hid n15
  have FZ := Lib.hid f15
  have LZ := Lib.hid z15.lt
  clear z15 n15 f15
  obtain ⟨dl2, hdl2⟩ : ∃ x, d2.list = x := ⟨_, rfl⟩
  have HDL2 := Lib.hid hdl2
  clear hdl2
  go_wp2_with fail
  refine (H15.out.list HDL2.out).mono ?_
  rintro e w16 ⟨v16, rfl, s16, n16, f16⟩
  obtain ⟨la3, lc3, rfl, -⟩ := s16.len
  have S16 := Lib.hid s16
  have FS : Hid (∀ g, (Value.slice la3 dl2.length lc3).ownBlock = some g → w14.heap.size ≤ g) := Lib.hid (fun g hg => Nat.le_trans N15.out.size (f16 g hg))
  have Z16 := Lib.hid (Z15.out.nw n16)
  have N16 := Lib.hid (N15.out.trans n16)
  have H16 := Lib.hid (H15.out.nw n16)
  clear s16 n16 f16 Z15 N15 H15
  go_wp2_with fail
  refine (Scan_ok H16.out DN2.out SC2.out).mono ?_
  rintro e w17 ⟨v17, p17, rfl, o1, o2⟩
  obtain ⟨xa4, xc4, rfl, -⟩ := o1.1.len
  obtain ⟨ya4, yc4, rfl, -⟩ := o2.1.len
  have U17 : Hid (Evs w17 (.slice xa4 told.length xc4) told) := Lib.hid ⟨o1.1.src, OKT.out⟩
  have N17 := Lib.hid (N16.out.trans o1.2.1)
  obtain ⟨Y3, hY3⟩ : ∃ Y3 : Nat → Prop, Y3 = fun k => Y2 k ∨ w14.heap.size ≤ k ∧ k < w17.heap.size := ⟨_, rfl⟩
  have H17 : Hid (HasX Y3 w w17 b d2) := Lib.hid (H14.out.nwY N17.out fun k hk => by rw [hY3] at hk; exact hk)
  have HY3 : Hid ((∀ k, Y2 k → Y3 k) ∧ (∀ g, (Value.slice xa4 told.length xc4).ownBlock = some g → Y3 g) ∧ (∀ g, (Value.slice za3 (sizesD d2).length zc3).ownBlock = some g → Y3 g) ∧ (dl2 ≠ [] → ∀ g, (Value.slice la3 dl2.length lc3).ownBlock = some g → Y3 g)) := Lib.hid (by
    rw [hY3]
    refine ⟨fun k h => .inl h, fun g hg => .inr ⟨Nat.le_trans N16.out.size (o1.2.2 g hg), o1.1.lt g hg⟩, fun g hg => .inr ⟨FZ.out g hg, by have h1 := LZ.out g hg; have h2 := H16.out.lt; have h3 := Z16.out.lt g hg; have h4 := o1.2.1.size; omega⟩, fun hne g hg => .inr ⟨FS.out g hg, ?_⟩⟩
    have h1 := S16.out.lt hne g hg
    have h2 := o1.2.1.size
    omega)
  have S17 := Lib.hid (S16.out.keep o1.2.1 (fun _ _ _ hf => hf))
  have Z17 := Lib.hid (Z16.out.nw o1.2.1)
  have A17 := Lib.hid (A14.out.nw N17.out)
  have C17 := Lib.hid (C14.out.nw N17.out)
  clear o1 o2 hY3 S16 Z16 A14 C14 H14 H16 N16
  go_wp2_with fail
  refine (Mend_ok H17.out DN2.out ME2.out).mono ?_
  rintro e w18 ⟨v18, p18, rfl, t18⟩
  obtain ⟨ma4, mc4, rfl, -⟩ := t18.evs.len
  obtain ⟨na4, nc4, rfl, -⟩ := t18.pcs.len
  have H18 := Lib.hid t18.disk
  have A18 := Lib.hid (A17.out.kept t18.kept fun g hg => HY3.out.1 g (HY2.out.1 g hg))
  have C18 := Lib.hid (C17.out.kept t18.kept fun g hg => HY3.out.1 g (HY2.out.2 g hg))
  have U18 := Lib.hid (U17.out.kept t18.kept HY3.out.2.1)
  have Z18 := Lib.hid (Z17.out.kept t18.kept HY3.out.2.2.1)
  have S18 := Lib.hid (S17.out.kept t18.kept HY3.out.2.2.2)
  have V18 : Hid (Evs w18 (.slice ma4 told.length mc4) told) := Lib.hid ⟨t18.evs.src, OKT.out⟩
  clear t18 H17 A17 C17 U17 Z17 S17
  go_wp2_with fail
  refine (SameEvents_ok A18.out C18.out).mono ?_
  rintro e w19 ⟨rfl, n19⟩
  have N19 := Lib.hid n19
  go_wp2_with fail
  refine (SameEvents_ok (A18.out.nw N19.out) (U18.out.nw N19.out)).mono ?_
  rintro e w20 ⟨rfl, n20⟩
  have N20 := Lib.hid (N19.out.trans n20)
  go_wp2_with fail
  refine (SameEvents_ok (A18.out.nw N20.out) (V18.out.nw N20.out)).mono ?_
  rintro e w21 ⟨rfl, n21⟩
  have N21 := Lib.hid (N20.out.trans n21)
  go_wp2_with fail
  refine (sizes_ok (H18.out.nw N21.out)).mono ?_
  rintro e w22 ⟨v22, rfl, z22, n22, -⟩
  obtain ⟨za5, zc5, rfl, -⟩ := z22.len
  have Z22 := Lib.hid z22
  have N22 := Lib.hid (N21.out.trans n22)
  go_wp2_with fail
  refine (sameInts_ok Z22.out.rd (Z18.out.nw N22.out).rd).mono ?_
  rintro e w23 ⟨rfl, n23⟩
  have N23 := Lib.hid (N22.out.trans n23)
  go_wp2_with fail
  refine ((H18.out.nw N23.out).list HDL2.out).mono ?_
  rintro e w24 ⟨v24, rfl, s24, n24, -⟩
  obtain ⟨la5, lc5, rfl, -⟩ := s24.len
  have S24 := Lib.hid s24
  have N24 := Lib.hid (N23.out.trans n24)
  go_wp2_with fail
  refine (SameTexts_ok S24.out (S18.out.keep N24.out (fun _ _ _ hf => hf))).mono ?_
  rintro e w25 ⟨rfl, n25⟩
  have N25 := Lib.hid (H18.out.base.trans (N24.out.trans n25))
  have hsame : (dl2 == dl2) = true := by simp
  rw [hsame]
  clear n19 n20 n21 n22 n23 n24 n25 z22 s24 N19 N20 N21 N22 N23 N24 hsame
  go_wp2_with fail
  refine (awake6_ok w25 (HT0.out.nw N25.out)).mono ?_
  rintro e w26 ⟨rfl, n26⟩
  have N26 := Lib.hid (N25.out.trans n26)
  clear n26
  go_wp2
  go_ret
  exact ⟨rfl, N26.out⟩
end Go.Proofs.YtphgiobklbpdeaaGreatDoor.RecoverTwice
