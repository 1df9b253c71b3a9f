/-
  Texts merged by a program of this claim's: CompactTwice.
-/
import Derived.Test.YtjapijndljknnaaGreatDoorM44
import Derived.Test.YtjapijndljknnaaGreatDoorM43
import Derived.Test.YtjapijndljknnaaGreatDoorM46
/-
  amanuensislaw07.CompactTwice: behind Compact there are two pieces at most, and no file but theirs and the manifest; a second one does nothing.
-/
namespace Go.Proofs.YtjapijndljknnaaGreatDoor.CompactTwice
open Go Go.RowKit Go.Sort
set_option maxRecDepth 100000
set_option maxHeartbeats 1600000
theorem walk (w : World) (ht : Tab w) (v0 : Value) (fs : List (List Ev)) (h0 : RdK 1 (isEvs w) w v0 fs) :
    Calls Tryz.prog 5 #[v0] w fun e w' => e = .returned (.bool true) ∧ Nw w w' := by
  have HT := Lib.hid ht
  obtain ⟨a0, c0, rfl, -⟩ := h0.len
  have G1 := Lib.hid (grown_ok w ht _ fs 1048576 (by omega) (by omega) h0)
  generalize fs.length = nf at *
  clear ht h0
  go_enter Tryz.func5, Tryz.ntmps5
  go_wp2_with fail
  refine G1.out.mono ?_
  rintro e w1 ⟨b, p, v, d, L, all, c, ok, rfl, g, -⟩
  obtain ⟨rfl, bt, -⟩ := g.big rfl
  obtain ⟨va, vc, rfl, -⟩ := g.vec.len
  obtain ⟨d', L', n, hcd, gc⟩ := comp_two bt g.kin g.evs g.few
  obtain ⟨n1, hn1⟩ : ∃ x, L.l.length = x := ⟨_, rfl⟩
  obtain ⟨l2, hl2⟩ : ∃ x, L'.l = x := ⟨_, rfl⟩
  obtain ⟨n2, hn2⟩ : ∃ x, l2.length = x := ⟨_, rfl⟩
  have hnn := gc.n_
  have hlen := gc.len
  rw [hl2, hn2, hn1] at hlen
  rw [hn1] at hnn
  have hsc := (gc.kin.rtl).scan (fun _ _ _ h => h) gc.calm.up
  obtain ⟨gd, hsc⟩ := hsc
  rw [hl2] at hsc
  have hn100 : n1 ≤ 100 := by rw [← hn1]; exact (g.kin.facts).2.1
  obtain ⟨k, hk⟩ : ∃ k, usedF d'.files = k := ⟨_, rfl⟩
  obtain ⟨dl, hdl⟩ : ∃ x, d'.list = x := ⟨_, rfl⟩
  have hdn : dl.length = n2 + 1 := by
    rw [← hdl, list_len, gc.names.length_eq, List.length_cons, List.length_map, hl2, hn2]
  have hu := gc.used
  rw [hk] at hu
  have C := Compact_ok g.hl g.kin g.evs (by have := g.len; have := g.few; omega) HT.out
  rw [hcd] at C
  have hall : all.length ≤ 100000 := by have := g.len; have := g.few; omega
  have L1 := Lib.hid g.hl
  have A1 : Hid (Evs w1 (.slice va all.length vc) all) := Lib.hid ⟨g.vec.src, g.evs⟩
  have EV := Lib.hid g.evs
  have KI := Lib.hid gc.kin
  have AG := Lib.hid gc.again
  have SC := Lib.hid hsc
  have HL1 := Lib.hid hn1
  have HL2 := Lib.hid hl2
  have HN2 := Lib.hid hn2
  have HU := Lib.hid hk
  have HDL := Lib.hid hdl
  have HDN := Lib.hid hdn
  have TWO := Lib.hid gc.two
  have CD := Lib.hid hcd
  have KI0 := Lib.hid g.kin
  clear g gc bt hcd hsc hn1 hl2 hn2 hk hdl hdn C G1
  -- WAYS
  rcases Nat.eq_zero_or_pos n with hz | hz
  · subst hz
    have hmin : min (n1 : Int) 2 = 1 := by omega
    have HWN := Lib.hid (show IntKind.i64.wrap ((n1 : Int) - 1) = 0 from by rw [show (n1 : Int) - 1 = 0 by omega]; rfl)
    have HMIN := Lib.hid hmin
    obtain rfl : n2 = 1 := by omega
    clear hmin hlen hnn
    go_wp2_with fail
    refine (LDisk_ok L1.out).mono ?_
    rintro e w2 ⟨rfl, rfl⟩
    go_wp2_with fail
    refine (L1.out.pieces rfl (by rw [HL1.out]; omega)).mono ?_
    rintro e w3 ⟨v3, rfl, q1, q2, -⟩
    rw [HL1.out] at q1
    obtain ⟨pa, pc, rfl, -⟩ := q1.len
    have L3 := Lib.hid (L1.out.nw q2)
    have A3 := Lib.hid (A1.out.nw q2)
    have C3 := Compact_ok L3.out KI0.out EV.out hall HT.out
    rw [CD.out] at C3
    have C3 := Lib.hid C3
    clear q1 q2 L1 A1
    go_wp2_with fail
    refine C3.out.mono ?_
    rintro e w4 ⟨rfl, hl4, hk4⟩
    have L4 := Lib.hid hl4
    have A4 := Lib.hid (A3.out.kept hk4 fun g hg => hg)
    clear hl4 hk4 C3 L3 A3
    go_wp2_with fail
    refine (L4.out.pieces HL2.out (by rw [HN2.out]; omega)).mono ?_
    rintro e w5 ⟨v5, rfl, q1, q2, q3⟩
    have P5 := Lib.hid (q1.pcs (by rw [← HL2.out]; exact L4.out.pok))
    have hq5 := q1.lt
    rw [HN2.out] at q1
    obtain ⟨qa, qc, rfl, -⟩ := q1.len
    have A5 := Lib.hid (A4.out.nw q2)
    obtain ⟨X5, hX5⟩ : ∃ X : Nat → Prop, X = fun j => (Value.slice va all.length vc).ownBlock = some j ∨ (Value.slice qa 1 qc).ownBlock = some j := ⟨_, rfl⟩
    have L5 : Hid (HasL X5 w w5 p b d' L') := Lib.hid (L4.out.wider q2 fun k hk => by
      rw [hX5] at hk
      rcases hk with hk | hk
      · exact .inl hk
      · exact .inr ⟨q3 k hk, hq5 k hk⟩)
    have HX5 : Hid ((∀ g, (Value.slice va all.length vc).ownBlock = some g → X5 g) ∧ ∀ g, (Value.slice qa 1 qc).ownBlock = some g → X5 g) := Lib.hid (by rw [hX5]; exact ⟨fun g h => .inl h, fun g h => .inr h⟩)
    clear q1 q2 q3 hq5 L4 A4 hX5
    go_wp2_with fail
    refine (L5.out.has.used HU.out).mono ?_
    rintro e w6 ⟨rfl, n6⟩
    have L6 := Lib.hid (L5.out.nw n6)
    have A6 := Lib.hid (A5.out.nw n6)
    have P6 := Lib.hid (P5.out.nw n6)
    have C6 := Compact_ok L6.out KI.out EV.out hall HT.out
    rw [AG.out] at C6
    have C6 := Lib.hid C6
    clear n6 L5 A5 P5
    go_wp2_with fail
    refine C6.out.mono ?_
    rintro e w7 ⟨rfl, hl7, hk7⟩
    have L7 := Lib.hid hl7
    have A7 := Lib.hid (A6.out.kept hk7 HX5.out.1)
    have P7 := Lib.hid (P6.out.kept hk7 HX5.out.2)
    clear hl7 hk7 C6 L6 A6 P6
    go_wp2_with fail
    refine (Scan_ok L7.out.has (.inl den_unpack) SC.out).mono ?_
    rintro e w8 ⟨v8, u8', rfl, o1, o2⟩
    obtain ⟨xa, xc, rfl, -⟩ := o1.1.len
    have h2l := o2.1.len
    rw [HN2.out] at h2l
    obtain ⟨ya, yc, rfl, -⟩ := h2l
    have L8 := Lib.hid (L7.out.nw o1.2.1)
    have A8 := Lib.hid (A7.out.nw o1.2.1)
    have P8 := Lib.hid (P7.out.nw o1.2.1)
    have X8 : Hid (Evs w8 (.slice xa all.length xc) all) := Lib.hid ⟨o1.1.src, EV.out⟩
    have Y8 : Hid (Pcs w8 (.slice ya 1 yc) l2) := Lib.hid (by have := o2.pcs; exact this)
    clear o1 o2 L7 A7 P7
    have hwn := HWN.out
    have hmin := HMIN.out
    go_wp2_with fail
    refine (L8.out.has.used HU.out).mono ?_
    rintro e w9 ⟨rfl, n9⟩
    have L9 := Lib.hid (L8.out.nw n9)
    have A9 := Lib.hid (A8.out.nw n9)
    have P9 := Lib.hid (P8.out.nw n9)
    have X9 := Lib.hid (X8.out.nw n9)
    have Y9 := Lib.hid (Y8.out.nw n9)
    clear n9 L8 A8 P8 X8 Y8
    go_wp2_with fail
    refine (L9.out.has.list HDL.out).mono ?_
    rintro e w10 ⟨v10, rfl, s10, n10, -⟩
    obtain ⟨la, lc, rfl, -⟩ := s10.len
    rw [HDN.out]
    have L10 := Lib.hid (L9.out.nw n10)
    have A10 := Lib.hid (A9.out.nw n10)
    have P10 := Lib.hid (P9.out.nw n10)
    have X10 := Lib.hid (X9.out.nw n10)
    have Y10 := Lib.hid (Y9.out.nw n10)
    clear n10 s10 L9 A9 P9 X9 Y9
    have SE : Hid (∀ W, Nw w10 W → Calls Tryz.prog 40 #[.slice xa all.length xc, .slice va all.length vc] W fun e w' => e = .returned (.bool true) ∧ Nw W w') := Lib.hid (fun W hW => SameEvents_ok (X10.out.nw hW) (A10.out.nw hW))
    have SP : Hid (∀ W, Nw w10 W → Calls Tryz.prog 17 #[.slice qa 1 qc, .slice ya 1 yc] W fun e w' => e = .returned (.bool true) ∧ Nw W w') := Lib.hid (fun W hW => SamePieces_ok (P10.out.nw hW) (Y10.out.nw hW))
    have PI : Hid (∀ W, Nw w10 W → Calls Tryz.prog 12 #[.pointer (some ⟨p, 0, none⟩)] W fun e w' => ∃ a c, e = .returned (.slice a 1 c) ∧ Pcs w' (.slice a 1 c) l2 ∧ Nw W w') := Lib.hid (fun W hW => ((L10.out.nw hW).pieces HL2.out (by rw [HN2.out]; omega)).mono (by
      rintro e w' ⟨v, rfl, h1, h2, -⟩
      have h3 := h1.pcs (by rw [← HL2.out]; exact L10.out.pok)
      rw [HN2.out] at h1
      obtain ⟨a, c, rfl, -⟩ := h1.len
      exact ⟨a, c, rfl, h3, h2⟩))
    have SQ : Hid (∀ W, Nw w10 W → ∀ a c, Pcs W (.slice a 1 c) l2 → Calls Tryz.prog 17 #[.slice a 1 c, .slice qa 1 qc] W fun e w' => e = .returned (.bool true) ∧ Nw W w') := Lib.hid (fun W hW a c h => SamePieces_ok h (P10.out.nw hW))
    have AW : Hid (∀ W, Nw w10 W → Calls Tryz.prog 41 #[] W fun e w' => e = .returned (.bool true) ∧ Nw W w') := Lib.hid (fun W hW => awake7_ok W (HT.out.nw (L10.out.base.trans hW)))
    obtain ⟨g0, o0, cap0, hqe, hg0, hcc⟩ : ∃ g o cap, (Value.slice qa 1 qc) = .slice (some ⟨g, o, none⟩) 1 cap ∧ g < w10.heap.size ∧ ∀ j (h : j < (l2.flatMap pcV).length), w10.cell? ⟨g, o + j, none⟩ = some (l2.flatMap pcV)[j] := by
      obtain ⟨-, ⟨_, hv, hz⟩ | ⟨g, o, cap, hv, -, -, h1, h2⟩⟩ := P10.out.src
      · rw [HN2.out] at hz; omega
      · rw [HN2.out] at hv
        exact ⟨g, o, cap, hv, h1, h2⟩
    injection hqe with e1 _ e3
    subst e1 e3
    clear hcc
    go_upto_region 12 with fail
    refine r12_1 (k := 0) SE SP PI SQ AW (fun s2 s98 s99 s100 s101 s102 s103 s104 s105 s106 s107 s108 s109 s110 s111 s112 s113 s114 s115 s116 s117 s118 s119 s120 s121 s122 s123 s124 s125 s126 s127 s128 s129 s130 s131 s132 s133 s134 s135 s136 wx nx hs => ?_)
    subst hs
    go_wp2
    go_ret
    exact ⟨rfl, L10.out.base.trans nx⟩
  · obtain rfl : n1 = n + 1 := by omega
    obtain rfl : n2 = 2 := by omega
    have hmin : min ((n : Int) + 1) 2 = 2 := by omega
    have HWN := Lib.hid (show IntKind.i64.wrap ((n : Int) + 1 - 1) = (n : Int) from by rw [show (n : Int) + 1 - 1 = n by omega]; exact IntWalk.i64_in _ (by omega))
    have HMIN := Lib.hid hmin
    clear hmin hlen hnn
    go_wp2_with fail
    refine (LDisk_ok L1.out).mono ?_
    rintro e w2 ⟨rfl, rfl⟩
    go_wp2_with fail
    refine (L1.out.pieces rfl (by rw [HL1.out]; omega)).mono ?_
    rintro e w3 ⟨v3, rfl, q1, q2, -⟩
    rw [HL1.out] at q1
    obtain ⟨pa, pc, rfl, -⟩ := q1.len
    have L3 := Lib.hid (L1.out.nw q2)
    have A3 := Lib.hid (A1.out.nw q2)
    have C3 := Compact_ok L3.out KI0.out EV.out hall HT.out
    rw [CD.out] at C3
    have C3 := Lib.hid C3
    clear q1 q2 L1 A1
    go_wp2_with fail
    refine C3.out.mono ?_
    rintro e w4 ⟨rfl, hl4, hk4⟩
    have L4 := Lib.hid hl4
    have A4 := Lib.hid (A3.out.kept hk4 fun g hg => hg)
    clear hl4 hk4 C3 L3 A3
    go_wp2_with fail
    refine (L4.out.pieces HL2.out (by rw [HN2.out]; omega)).mono ?_
    rintro e w5 ⟨v5, rfl, q1, q2, q3⟩
    have P5 := Lib.hid (q1.pcs (by rw [← HL2.out]; exact L4.out.pok))
    have hq5 := q1.lt
    rw [HN2.out] at q1
    obtain ⟨qa, qc, rfl, -⟩ := q1.len
    have A5 := Lib.hid (A4.out.nw q2)
    obtain ⟨X5, hX5⟩ : ∃ X : Nat → Prop, X = fun j => (Value.slice va all.length vc).ownBlock = some j ∨ (Value.slice qa 2 qc).ownBlock = some j := ⟨_, rfl⟩
    have L5 : Hid (HasL X5 w w5 p b d' L') := Lib.hid (L4.out.wider q2 fun k hk => by
      rw [hX5] at hk
      rcases hk with hk | hk
      · exact .inl hk
      · exact .inr ⟨q3 k hk, hq5 k hk⟩)
    have HX5 : Hid ((∀ g, (Value.slice va all.length vc).ownBlock = some g → X5 g) ∧ ∀ g, (Value.slice qa 2 qc).ownBlock = some g → X5 g) := Lib.hid (by rw [hX5]; exact ⟨fun g h => .inl h, fun g h => .inr h⟩)
    clear q1 q2 q3 hq5 L4 A4 hX5
    go_wp2_with fail
    refine (L5.out.has.used HU.out).mono ?_
    rintro e w6 ⟨rfl, n6⟩
    have L6 := Lib.hid (L5.out.nw n6)
    have A6 := Lib.hid (A5.out.nw n6)
    have P6 := Lib.hid (P5.out.nw n6)
    have C6 := Compact_ok L6.out KI.out EV.out hall HT.out
    rw [AG.out] at C6
    have C6 := Lib.hid C6
    clear n6 L5 A5 P5
    go_wp2_with fail
    refine C6.out.mono ?_
    rintro e w7 ⟨rfl, hl7, hk7⟩
    have L7 := Lib.hid hl7
    have A7 := Lib.hid (A6.out.kept hk7 HX5.out.1)
    have P7 := Lib.hid (P6.out.kept hk7 HX5.out.2)
    clear hl7 hk7 C6 L6 A6 P6
    go_wp2_with fail
    refine (Scan_ok L7.out.has (.inl den_unpack) SC.out).mono ?_
    rintro e w8 ⟨v8, u8', rfl, o1, o2⟩
    obtain ⟨xa, xc, rfl, -⟩ := o1.1.len
    have h2l := o2.1.len
    rw [HN2.out] at h2l
    obtain ⟨ya, yc, rfl, -⟩ := h2l
    have L8 := Lib.hid (L7.out.nw o1.2.1)
    have A8 := Lib.hid (A7.out.nw o1.2.1)
    have P8 := Lib.hid (P7.out.nw o1.2.1)
    have X8 : Hid (Evs w8 (.slice xa all.length xc) all) := Lib.hid ⟨o1.1.src, EV.out⟩
    have Y8 : Hid (Pcs w8 (.slice ya 2 yc) l2) := Lib.hid (by have := o2.pcs; exact this)
    clear o1 o2 L7 A7 P7
    have hwn := HWN.out
    have hmin := HMIN.out
    go_wp2_with fail
    refine (L8.out.has.used HU.out).mono ?_
    rintro e w9 ⟨rfl, n9⟩
    have L9 := Lib.hid (L8.out.nw n9)
    have A9 := Lib.hid (A8.out.nw n9)
    have P9 := Lib.hid (P8.out.nw n9)
    have X9 := Lib.hid (X8.out.nw n9)
    have Y9 := Lib.hid (Y8.out.nw n9)
    clear n9 L8 A8 P8 X8 Y8
    go_wp2_with fail
    refine (L9.out.has.list HDL.out).mono ?_
    rintro e w10 ⟨v10, rfl, s10, n10, -⟩
    obtain ⟨la, lc, rfl, -⟩ := s10.len
    rw [HDN.out]
    have L10 := Lib.hid (L9.out.nw n10)
    have A10 := Lib.hid (A9.out.nw n10)
    have P10 := Lib.hid (P9.out.nw n10)
    have X10 := Lib.hid (X9.out.nw n10)
    have Y10 := Lib.hid (Y9.out.nw n10)
    clear n10 s10 L9 A9 P9 X9 Y9
    have SE : Hid (∀ W, Nw w10 W → Calls Tryz.prog 40 #[.slice xa all.length xc, .slice va all.length vc] W fun e w' => e = .returned (.bool true) ∧ Nw W w') := Lib.hid (fun W hW => SameEvents_ok (X10.out.nw hW) (A10.out.nw hW))
    have SP : Hid (∀ W, Nw w10 W → Calls Tryz.prog 17 #[.slice qa 2 qc, .slice ya 2 yc] W fun e w' => e = .returned (.bool true) ∧ Nw W w') := Lib.hid (fun W hW => SamePieces_ok (P10.out.nw hW) (Y10.out.nw hW))
    have PI : Hid (∀ W, Nw w10 W → Calls Tryz.prog 12 #[.pointer (some ⟨p, 0, none⟩)] W fun e w' => ∃ a c, e = .returned (.slice a 2 c) ∧ Pcs w' (.slice a 2 c) l2 ∧ Nw W w') := Lib.hid (fun W hW => ((L10.out.nw hW).pieces HL2.out (by rw [HN2.out]; omega)).mono (by
      rintro e w' ⟨v, rfl, h1, h2, -⟩
      have h3 := h1.pcs (by rw [← HL2.out]; exact L10.out.pok)
      rw [HN2.out] at h1
      obtain ⟨a, c, rfl, -⟩ := h1.len
      exact ⟨a, c, rfl, h3, h2⟩))
    have SQ : Hid (∀ W, Nw w10 W → ∀ a c, Pcs W (.slice a 2 c) l2 → Calls Tryz.prog 17 #[.slice a 2 c, .slice qa 2 qc] W fun e w' => e = .returned (.bool true) ∧ Nw W w') := Lib.hid (fun W hW a c h => SamePieces_ok h (P10.out.nw hW))
    have AW : Hid (∀ W, Nw w10 W → Calls Tryz.prog 41 #[] W fun e w' => e = .returned (.bool true) ∧ Nw W w') := Lib.hid (fun W hW => awake7_ok W (HT.out.nw (L10.out.base.trans hW)))
    obtain ⟨g0, o0, cap0, hqe, hg0, hcc⟩ : ∃ g o cap, (Value.slice qa 2 qc) = .slice (some ⟨g, o, none⟩) 2 cap ∧ g < w10.heap.size ∧ ∀ j (h : j < (l2.flatMap pcV).length), w10.cell? ⟨g, o + j, none⟩ = some (l2.flatMap pcV)[j] := by
      obtain ⟨-, ⟨_, hv, hz⟩ | ⟨g, o, cap, hv, -, -, h1, h2⟩⟩ := P10.out.src
      · rw [HN2.out] at hz; omega
      · rw [HN2.out] at hv
        exact ⟨g, o, cap, hv, h1, h2⟩
    injection hqe with e1 _ e3
    subst e1 e3
    obtain ⟨k0, q0, hl0, hqk, -, -, -⟩ := TWO.out (by rw [HL2.out, HN2.out]; omega)
    rw [HL2.out] at hl0
    subst hl0
    have d3 : Hid (w10.cell? ⟨g0, o0 + 3, none⟩ = some (.bool true)) := Lib.hid (hcc 3 (by simp [pcV]))
    have d2 : Hid (w10.cell? ⟨g0, o0 + 2, none⟩ = some (.int .i64 k0)) := Lib.hid (hcc 2 (by simp [pcV]))
    have d5 : Hid (w10.cell? ⟨g0, o0 + 4 + 1, none⟩ = some (.int .i64 k0)) := Lib.hid (by have := hcc 5 (by simp [pcV]); rw [show o0 + 5 = o0 + 4 + 1 by omega] at this; rw [this, ← hqk]; rfl)
    have LG := Lib.hid hg0
    clear hcc hg0
    go_upto_region 12 with fail
    refine r12_2 SE SP PI SQ AW LG d3 d2 d5 (fun s2 s98 s99 s100 s101 s102 s103 s104 s105 s106 s107 s108 s109 s110 s111 s112 s113 s114 s115 s116 s117 s118 s119 s120 s121 s122 s123 s124 s125 s126 s127 s128 s129 s130 s131 s132 s133 s134 s135 s136 wx nx hs => ?_)
    subst hs
    go_wp2
    go_ret
    exact ⟨rfl, L10.out.base.trans nx⟩
end Go.Proofs.YtjapijndljknnaaGreatDoor.CompactTwice
