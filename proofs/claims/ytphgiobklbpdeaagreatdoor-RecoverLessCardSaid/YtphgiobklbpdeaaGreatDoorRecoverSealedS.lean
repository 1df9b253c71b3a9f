/-
  Texts merged by a program of this claim's: RecoverSealed.
-/
import Derived.Test.YtphgiobklbpdeaaGreatDoorM40
import Derived.Test.YtphgiobklbpdeaaGreatDoorM38
/-
  amanuensislaw06.RecoverSealed: a sealed piece that lacks bytes makes the disk no log; nothing is changed.
-/
namespace Go.Proofs.YtphgiobklbpdeaaGreatDoor.RecoverSealed
open Go Go.RowKit Go.Sort
set_option maxRecDepth 100000
set_option maxHeartbeats 1600000

theorem Pick1_ok (x : Int) (w : World) : Calls Tryz.prog 37 #[.int .i64 x, .int .i64 1] w fun e w' => e = .returned (.int .i64 0) ∧ w = w' := by
  go_enter Tryz.func37, Tryz.ntmps37
  go_wp2
  go_ret
  exact ⟨rfl, rfl⟩
theorem PickN_ok (x : Int) (n : Nat) (w : World) (h1 : 1 ≤ n) (hn : n ≤ 1000000007) : ∃ k : Nat, k < n ∧ Calls Tryz.prog 37 #[.int .i64 x, .int .i64 n] w fun e w' => e = .returned (.int .i64 k) ∧ w = w' := by
  by_cases h : n = 1
  · subst h
    exact ⟨0, by omega, Pick1_ok x w⟩
  · have h0 := Int.emod_nonneg x (show (n : Int) ≠ 0 by omega)
    have h2 := Int.emod_lt_of_pos x (show (0 : Int) < n by omega)
    refine ⟨(x % n).toNat, by omega, ?_⟩
    rw [show (((x % n).toNat : Nat) : Int) = x % n by omega]
    exact Pick_ok x n w (by omega) (by omega)
theorem walk (w : World) (ht : Tab w) (v0 : Value) (fs : List (List Ev)) (size sync : Int) (which cut : Int) (h0 : RdK 1 (isEvs w) w v0 fs) (_hw : -9223372036854775808 ≤ which ∧ which ≤ 9223372036854775807) (_hc : -9223372036854775808 ≤ cut ∧ cut ≤ 9223372036854775807) :
    Calls Tryz.prog 8 #[.agg #[v0, .int .i64 size, .int .i64 sync], .int .i64 which, .int .i64 cut] w fun e w' => e = .returned (.bool true) ∧ Nw w w' := by
  have n1 := (Nw.refl w).alloc (.cells #[v0, .int .i64 size, .int .i64 sync] 51)
  have b1 := heap_alloc_new w (.cells #[v0, .int .i64 size, .int .i64 sync] 51)
  have y0 := cell_of b1 (i := 0) rfl
  have y1 := cell_of b1 (i := 1) rfl
  have y2 := cell_of b1 (i := 2) rfl
  have hbl := lt_of_block b1
  have HT0 := Lib.hid ht
  have C1 := Lib.hid (built_ok _ (ht.nw n1) v0 fs size sync (frames_nw h0 n1))
  have N1 := Lib.hid n1
  obtain ⟨a0, c0, rfl, -⟩ := h0.len
  obtain ⟨nf, hnf⟩ : ∃ n, fs.length = n := ⟨_, rfl⟩
  rw [hnf] at C1 n1 b1 y0 y1 y2 hbl N1 ⊢
  clear ht h0 n1 b1 hnf _hw _hc
  go_enter Tryz.func8, Tryz.ntmps8
  go_wp2_with fail
  refine C1.out.mono ?_
  rintro e w2 ⟨b, v2, d, L, all, c, rfl, B2⟩
  obtain ⟨va, vc, rfl, -⟩ := B2.evs.len
  have BT := Lib.hid B2.bt
  have hnp61 := (B2.bt.ak.facts (by have := B2.few; omega)).2.1
  have H2 := Lib.hid ((B2.disk.weak (Y := fun _ => False) fun k hk => hk.elim).rebase N1.out)
  clear B2 C1 y0 y1 y2 hbl
  obtain ⟨⟨gd, sc⟩, dn, A0, p0, old0, fs0, m0, hl0, -⟩ := BT.out.scanned
  obtain ⟨ps, hps⟩ : ∃ x, L.l = x := ⟨_, rfl⟩
  rw [hps] at sc hl0 hnp61
  have hs0 := BT.out.sealed' hps
  obtain ⟨np, hnp⟩ : ∃ x, ps.length = x := ⟨_, rfl⟩
  have hnp0 : 0 < np := by rw [← hnp, hl0]; simp
  have HSE := Lib.hid hs0
  have HNP := Lib.hid hnp
  rw [hnp] at hnp61
  clear hs0 hl0
  go_wp2_with fail
  refine (Scan_ok H2.out dn sc).mono ?_
  rintro e w3 ⟨v3, p3, rfl, o1, o2⟩
  obtain ⟨xa, xc, rfl, -⟩ := o1.1.len
  have o2l := o2.1.len
  rw [hnp] at o2l
  obtain ⟨ya, yc, rfl, -⟩ := o2l
  have P3 := Lib.hid o2.pcs
  have H3 := Lib.hid (H2.out.nw o1.2.1)
  have hq0 : ((np : Int) == 0) = false := by simp; omega
  clear o1 o2 dn sc hnp H2
  by_cases h2 : np < 2
  case pos =>
    have q1 : decide ((np : Int) < 2) = true := by simp; omega
    go_wp2_with fail
    refine (awake6_ok w3 (HT0.out.nw H3.out.base)).mono ?_
    rintro e w4 ⟨rfl, n4⟩
    have N4 := Lib.hid (H3.out.base.trans n4)
    clear n4
    go_wp2
    go_ret
    exact ⟨rfl, N4.out⟩
  have q1 : decide ((np : Int) < 2) = false := by simp; omega
  obtain ⟨nq, rfl⟩ : ∃ k, np = k + 1 := ⟨np - 1, by omega⟩
  obtain ⟨k, hk, PK⟩ := PickN_ok which nq w3 (by omega) (by omega)
  have PK := Lib.hid PK
  obtain ⟨g, o, hpe, hg, x0, -, -, -⟩ := pcs_at P3.out HNP.out (k := k) (by omega)
  subst hpe
  obtain ⟨s1, s2⟩ := HSE.out k (by rw [HNP.out]; omega)
  obtain ⟨nm, hnm⟩ : ∃ x, (ps[k]'(by rw [HNP.out]; omega)).name = x := ⟨_, rfl⟩
  rw [hnm] at x0 s1 s2
  obtain ⟨sz, hsz⟩ : ∃ x, (fileOf d.files nm).bytes.length = x := ⟨_, rfl⟩
  have hsz24 : sz ≤ 16777216 := by
    rw [← hsz]
    unfold fileOf
    cases hg : getF d.files nm with
    | none => simp
    | some f => exact bytes_le H3.out.ok hg
  rw [hsz] at s1 s2
  have HSZ := Lib.hid hsz
  have HS2 := Lib.hid s2
  have hw2 : ((nq + 1 : Nat) : Int) - 1 = (nq : Int) := by omega
  have hw1 : IntKind.i64.wrap (((nq + 1 : Nat) : Int) - 1) = (nq : Int) := by rw [IntWalk.i64_in _ (by omega)]; exact hw2
  clear hnm hsz s2 HSE
  go_wp2_with fail
  refine PK.out.mono ?_
  rintro e w4 ⟨rfl, rfl⟩
  go_wp2_with fail
  refine (H3.out.size nm HSZ.out).mono ?_
  rintro e w4 ⟨rfl, n4⟩
  have H4 := Lib.hid (H3.out.nw n4)
  have hsq : ((sz : Int) == 0) = false := by simp; omega
  obtain ⟨j, hj, PJ⟩ := PickN_ok cut sz w4 (by omega) (by omega)
  have PJ := Lib.hid PJ
  obtain ⟨d1, cu, sc1, dn1, me1, op1⟩ := HS2.out j hj
  have CU := Lib.hid cu
  have SC1 := Lib.hid sc1
  have DN1 := Lib.hid dn1
  have ME1 := Lib.hid me1
  have OP1 := Lib.hid op1
  clear n4 cu sc1 dn1 me1 op1 x0 hg H3 PK
  go_wp2_with fail
  refine PJ.out.mono ?_
  rintro e w5 ⟨rfl, rfl⟩
  go_wp2_with fail
  refine (H4.out.cut nm j CU.out).mono ?_
  rintro e w6 ⟨rfl, H6, -⟩
  have H6 := Lib.hid H6
  clear PJ H4 CU HS2
  go_wp2_with fail
  refine (sizes_ok H6.out).mono ?_
  rintro e w7 ⟨v7, rfl, z7, n7, f7⟩
  obtain ⟨za, zc, rfl, -⟩ := z7.len
  have Z7 := Lib.hid z7
  have H7 := Lib.hid (H6.out.nw n7)
  have N7 := Lib.hid n7
  have FZ := Lib.hid f7
  have LZ := Lib.hid z7.lt
  clear z7 n7 f7
  obtain ⟨dl, hdl⟩ : ∃ x, d1.list = x := ⟨_, rfl⟩
  have HDL := Lib.hid hdl
  clear hdl
  go_wp2_with fail
  refine (H7.out.list HDL.out).mono ?_
  rintro e w8 ⟨v8, rfl, s8, n8, f8⟩
  obtain ⟨la, lc, rfl, -⟩ := s8.len
  have S8 := Lib.hid s8
  have Z8 := Lib.hid (Z7.out.nw n8)
  have N8 := Lib.hid (N7.out.trans n8)
  have FS : Hid (∀ g, (Value.slice la dl.length lc).ownBlock = some g → w6.heap.size ≤ g) := Lib.hid (fun g hg => Nat.le_trans N7.out.size (f8 g hg))
  have H8 := Lib.hid (H7.out.nw n8)
  clear s8 n8 f8 H7 Z7 N7
  go_wp2_with fail
  refine (Scan_ok H8.out DN1.out SC1.out).mono ?_
  rintro e w9 ⟨v9, p9, rfl, o1, o2⟩
  obtain ⟨xa2, xc2, rfl, -⟩ := o1.1.len
  obtain ⟨ya2, yc2, rfl, -⟩ := o2.1.len
  simp only [List.length_nil]
  have N9 := Lib.hid (N8.out.trans o1.2.1)
  obtain ⟨Y, hY⟩ : ∃ Y : Nat → Prop, Y = fun k => w6.heap.size ≤ k ∧ k < w9.heap.size := ⟨_, rfl⟩
  have H9 : Hid (HasX Y w w9 b d1) := Lib.hid (H6.out.nwY N9.out fun k hk => by rw [hY] at hk; exact .inr hk)
  have S9 := Lib.hid (S8.out.keep o1.2.1 (fun _ _ _ hf => hf))
  have Z9 := Lib.hid (Z8.out.nw o1.2.1)
  have HY : Hid ((∀ g, (Value.slice za (sizesD d1).length zc).ownBlock = some g → Y g) ∧ (dl ≠ [] → ∀ g, (Value.slice la dl.length lc).ownBlock = some g → Y g)) := Lib.hid (by
    rw [hY]
    exact ⟨fun g hg => ⟨FZ.out g hg, by have h3 := Z9.out.lt g hg; exact h3⟩, fun hne g hg => ⟨FS.out g hg, S9.out.lt hne g hg⟩⟩)
  clear o1 o2 hY S8 Z8 N8 H6 H8
  go_wp2_with fail
  refine (Mend_ok H9.out DN1.out ME1.out).mono ?_
  rintro e w10 ⟨v10, p10, rfl, t10⟩
  obtain ⟨ma, mc, rfl, -⟩ := t10.evs.len
  obtain ⟨na, nc, rfl, -⟩ := t10.pcs.len
  simp only [List.length_nil]
  have H10 : Hid (HasX Y w w10 b d1) := Lib.hid (t10.disk.weak fun k hk => .inl hk)
  have Z10 := Lib.hid (Z9.out.kept t10.kept HY.out.1)
  have S10 := Lib.hid (S9.out.kept t10.kept HY.out.2)
  clear t10 H9 Z9 S9
  have C := Open_ok H10.out HT0.out DN1.out 64
  rw [OP1.out] at C
  have C := Lib.hid C
  go_wp2_with fail
  refine C.out.mono ?_
  rintro e w11 ⟨k11, ⟨hx, -⟩ | ⟨-, rfl, H11⟩⟩
  · exact absurd hx (by simp)
  have H11 := Lib.hid H11
  have Z11 := Lib.hid (Z10.out.kept k11 HY.out.1)
  have S11 := Lib.hid (S10.out.kept k11 HY.out.2)
  clear k11 C H10 Z10 S10
  go_wp2_with fail
  refine (sizes_ok H11.out).mono ?_
  rintro e w12 ⟨v12, rfl, z12, n12, -⟩
  obtain ⟨za5, zc5, rfl, -⟩ := z12.len
  have Z12 := Lib.hid z12
  have N12 := Lib.hid n12
  go_wp2_with fail
  refine (sameInts_ok Z12.out.rd (Z11.out.nw N12.out).rd).mono ?_
  rintro e w13 ⟨rfl, n13⟩
  have N13 := Lib.hid (N12.out.trans n13)
  go_wp2_with fail
  refine ((H11.out.nw N13.out).list HDL.out).mono ?_
  rintro e w14 ⟨v14, rfl, s14, n14, -⟩
  obtain ⟨la5, lc5, rfl, -⟩ := s14.len
  have S14 := Lib.hid s14
  have N14 := Lib.hid (N13.out.trans n14)
  go_wp2_with fail
  refine (SameTexts_ok S14.out (S11.out.keep N14.out (fun _ _ _ hf => hf))).mono ?_
  rintro e w15 ⟨rfl, n15⟩
  have N15 := Lib.hid (H11.out.base.trans (N14.out.trans n15))
  have hsame : (dl == dl) = true := by simp
  rw [hsame]
  clear n12 n13 n14 n15 z12 s14 N12 N13 N14 hsame
  go_wp2_with fail
  refine (awake6_ok w15 (HT0.out.nw N15.out)).mono ?_
  rintro e w16 ⟨rfl, n16⟩
  have N16 := Lib.hid (N15.out.trans n16)
  clear n16
  go_wp2
  go_ret
  exact ⟨rfl, N16.out⟩
end Go.Proofs.YtphgiobklbpdeaaGreatDoor.RecoverSealed
