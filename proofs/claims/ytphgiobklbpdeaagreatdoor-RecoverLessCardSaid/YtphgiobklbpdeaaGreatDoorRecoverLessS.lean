/-
  Texts merged by a program of this claim's: RecoverLess.
-/
import Derived.Test.YtphgiobklbpdeaaGreatDoorM41
import Derived.Test.YtphgiobklbpdeaaGreatDoorM38
import Derived.Test.YtphgiobklbpdeaaGreatDoorRecoverSealedS
/-
  amanuensislaw06.RecoverLess: the fewer bytes the open piece's file has, the shorter the begin that is told.
-/
namespace Go.Proofs.YtphgiobklbpdeaaGreatDoor.RecoverLess
open Go Go.RowKit Go.Sort
open Go.Proofs.YtphgiobklbpdeaaGreatDoor.RecoverSealed (PickN_ok)
set_option maxRecDepth 100000
set_option maxHeartbeats 1600000

theorem walk (w : World) (ht : Tab w) (v0 : Value) (fs : List (List Ev)) (size sync : Int) (one two : Int) (h0 : RdK 1 (isEvs w) w v0 fs) (_hw : -9223372036854775808 ≤ one ∧ one ≤ 9223372036854775807) (_hc : -9223372036854775808 ≤ two ∧ two ≤ 9223372036854775807) :
    Calls Tryz.prog 5 #[.agg #[v0, .int .i64 size, .int .i64 sync], .int .i64 one, .int .i64 two] w fun e w' => e = .returned (.bool true) ∧ Nw w w' := by
  have n1 := (Nw.refl w).alloc (.cells #[v0, .int .i64 size, .int .i64 sync] 51)
  have b1 := heap_alloc_new w (.cells #[v0, .int .i64 size, .int .i64 sync] 51)
  have y0 := cell_of b1 (i := 0) rfl
  have y1 := cell_of b1 (i := 1) rfl
  have y2 := cell_of b1 (i := 2) rfl
  have hbl := lt_of_block b1
  have HT0 := Lib.hid ht
  have C1 := Lib.hid (built_ok _ (ht.nw n1) v0 fs size sync (frames_nw h0 n1))
  have HF0 := Lib.hid h0
  have N1 := Lib.hid n1
  have B1 := Lib.hid b1
  obtain ⟨a0, c0, rfl, -⟩ := h0.len
  obtain ⟨nf, hnf⟩ : ∃ n, fs.length = n := ⟨_, rfl⟩
  rw [hnf] at C1 n1 b1 y0 y1 y2 hbl N1 B1 HF0 ⊢
  clear ht h0 n1 b1 hnf _hw _hc
  go_enter Tryz.func5, Tryz.ntmps5
  go_wp2_with fail
  refine C1.out.mono ?_
  rintro e w2 ⟨b, v2, d, L, all, c, rfl, B2⟩
  obtain ⟨va, vc, rfl, -⟩ := B2.evs.len
  have BT := Lib.hid B2.bt
  have FEW := Lib.hid B2.few
  have PL := Lib.hid B2.plain
  have hnp61 := (B2.bt.ak.facts (by have := B2.few; omega)).2.1
  have A2 : Hid (Evs w2 (.slice va all.length vc) all) := Lib.hid ⟨B2.evs.src, B2.ok⟩
  obtain ⟨X, hX⟩ : ∃ X : Nat → Prop, X = fun k => (Value.slice va all.length vc).ownBlock = some k := ⟨_, rfl⟩
  have H2 : Hid (HasX X w w2 b d) := Lib.hid (by rw [hX]; exact B2.disk.rebase N1.out)
  have HX : Hid (∀ g, (Value.slice va all.length vc).ownBlock = some g → X g) := Lib.hid (by rw [hX]; exact fun g h => h)
  have hB := H2.out.base
  have N2 := Lib.hid (B2.disk.base)
  clear B2 C1 y0 y1 y2 hbl hX hB
  -- the second one
  have b2 := N2.out.at_ B1.out
  have y0 := cell_of b2 (i := 0) rfl
  have y1 := cell_of b2 (i := 1) rfl
  have y2 := cell_of b2 (i := 2) rfl
  have hbl := lt_of_block b2
  have C2 := Lib.hid (built_ok w2 (HT0.out.nw H2.out.base) (.slice a0 nf c0) fs size sync (frames_nw HF0.out H2.out.base))
  clear b2
  go_wp2_with fail
  refine C2.out.mono ?_
  rintro e w3 ⟨b', v3, d', L', all', c', rfl, B3⟩
  obtain ⟨va2, vc2, rfl, -⟩ := B3.evs.len
  have he : d' = d ∧ L' = L ∧ all' = all := by
    have h1 := B3.plain
    rw [PL.out] at h1
    simp only [Prod.mk.injEq] at h1
    exact ⟨h1.1.symm, h1.2.1.symm, h1.2.2.symm⟩
  obtain ⟨rfl, rfl, rfl⟩ := he
  have T3 := Lib.hid (Two.of_new H2.out (B3.disk.weak (Y := fun _ => False) fun k hk => hk.elim))
  have A3 := Lib.hid (A2.out.nw B3.disk.base)
  clear B3 C2 y0 y1 y2 hbl A2 H2
  obtain ⟨⟨gd, sc⟩, dn, A0, p0, old0, fs0, m0, hl0, -⟩ := BT.out.scanned
  have hle := fun (p' : Pc) (hp : lastP L'.l = p') (N : Nat) (hN : (fileOf d'.files p'.name).bytes.length = N) (k m : Nat) (h17 : 17 ≤ k) (hkm : k ≤ m) (hm : m ≤ N) => BT.out.less (by have := FEW.out; omega) hp hN h17 hkm hm
  obtain ⟨ps, hps⟩ : ∃ x, L'.l = x := ⟨_, rfl⟩
  rw [hps] at sc hl0 hnp61
  obtain ⟨np, hnp⟩ : ∃ x, ps.length = x := ⟨_, rfl⟩
  have hnp0 : 0 < np := by rw [← hnp, hl0]; simp
  have HNP := Lib.hid hnp
  have HPS := Lib.hid hps
  have HLE := Lib.hid hle
  rw [hnp] at hnp61
  clear hl0 hle hps
  go_wp2_with fail
  refine (Scan_ok T3.out.fst dn sc).mono ?_
  rintro e w4 ⟨v4, p4, rfl, o1, o2⟩
  obtain ⟨xa, xc, rfl, -⟩ := o1.1.len
  have o2l := o2.1.len
  rw [hnp] at o2l
  obtain ⟨ya, yc, rfl, -⟩ := o2l
  have P4 := Lib.hid o2.pcs
  have T4 := Lib.hid (T3.out.nw o1.2.1)
  have A4 := Lib.hid (A3.out.nw o1.2.1)
  have E4 : Hid (Evs w4 (.slice xa all'.length xc) all') := Lib.hid ⟨o1.1.src, A3.out.ok⟩
  have hq0 : ((np : Int) == 0) = false := by simp; omega
  clear o1 o2 dn sc hnp T3 A3
  go_wp2_with fail
  refine (SameEvents_ok E4.out A4.out).mono ?_
  rintro e w5 ⟨rfl, n5⟩
  have T5 := Lib.hid (T4.out.nw n5)
  have A5 := Lib.hid (A4.out.nw n5)
  have P5 := Lib.hid (P4.out.nw n5)
  clear n5 T4 A4 P4 E4
  obtain ⟨nq, rfl⟩ : ∃ k, np = k + 1 := ⟨np - 1, by omega⟩
  obtain ⟨g, o, hpe, hg, x0, x1, x2, x3⟩ := pcs_at P5.out HNP.out (k := nq) (by omega)
  subst hpe
  have hlast : (ps[nq]'(by rw [HNP.out]; omega)) = lastP ps := by
    have hne : ps ≠ [] := fun e => by have := HNP.out; rw [e] at this; simp at this
    have := lastP_at hne
    rw [← this]; congr 1; have := HNP.out; omega
  rw [hlast] at x0 x1 x2 x3
  obtain ⟨q, hq⟩ : ∃ q, lastP ps = q := ⟨_, rfl⟩
  rw [hq] at x0 x1 x2 x3
  have HQ : Hid (lastP L'.l = q) := Lib.hid (by rw [HPS.out]; exact hq)
  have hw2 : ((nq + 1 : Nat) : Int) - 1 = (nq : Int) := by omega
  have hw1 : IntKind.i64.wrap (((nq + 1 : Nat) : Int) - 1) = (nq : Int) := by rw [IntWalk.i64_in _ (by omega)]; exact hw2
  have na := (Nw.refl w5).alloc (.cells #[.string ⟨q.name.toArray⟩, .int .i64 q.first, .int .i64 q.count, .bool q.dense] 44)
  have hB := heap_alloc_new w5 (.cells #[.string ⟨q.name.toArray⟩, .int .i64 q.first, .int .i64 q.count, .bool q.dense] 44)
  have z0 := cell_of hB (i := 0) rfl
  have hzl := lt_of_block hB
  obtain ⟨sz, hsz⟩ : ∃ x, (fileOf d'.files q.name).bytes.length = x := ⟨_, rfl⟩
  have hsz24 : sz ≤ 16777216 := by
    rw [← hsz]
    unfold fileOf
    cases hg : getF d'.files q.name with
    | none => simp
    | some f => exact bytes_le T5.out.fst.ok hg
  have HSZ := Lib.hid hsz
  have NA := Lib.hid na
  have HB := Lib.hid hB
  clear na hB hsz hlast hq
  go_wp2_with fail
  refine ((T5.out.fst.nw NA.out).size q.name HSZ.out).mono ?_
  rintro e w6 ⟨rfl, n6⟩
  have N6 := Lib.hid (NA.out.trans n6)
  obtain ⟨X2, hX2⟩ : ∃ X2 : Nat → Prop, X2 = fun k => X k ∨ w5.heap.size ≤ k ∧ k < w6.heap.size := ⟨_, rfl⟩
  have T6 : Hid (Two X2 w w6 b d' b' d') := Lib.hid (T5.out.nwY N6.out fun k hk => by rw [hX2] at hk; exact hk)
  have B6 := Lib.hid (n6.at_ HB.out)
  have HX2 : Hid ((∀ g, (Value.slice va all'.length vc).ownBlock = some g → X2 g) ∧ X2 w5.heap.size) := Lib.hid (by
    rw [hX2]
    exact ⟨fun g h => .inl (HX.out g h), .inr ⟨Nat.le_refl _, lt_of_block (n6.at_ HB.out)⟩⟩)
  have A6 := Lib.hid (A5.out.nw N6.out)
  clear n6 hX2 x0 x1 x2 x3 z0 hzl hg T5 A5 P5 HB NA N6
  by_cases h17 : sz < 17
  case pos =>
    have q1 : decide ((sz : Int) < 17) = true := by simp; omega
    go_wp2_with fail
    refine (awake6_ok w6 (HT0.out.nw T6.out.base)).mono ?_
    rintro e w7 ⟨rfl, n7⟩
    have N7 := Lib.hid (T6.out.base.trans n7)
    clear n7
    go_wp2
    go_ret
    exact ⟨rfl, N7.out⟩
  have q1 : decide ((sz : Int) < 17) = false := by simp; omega
  obtain ⟨k1, hk1, PK1⟩ := PickN_ok one (sz - 17 + 1) w6 (by omega) (by omega)
  obtain ⟨k2, hk2, PK2⟩ := PickN_ok two (sz - 17 + 1) w6 (by omega) (by omega)
  have hwa : IntKind.i64.wrap ((sz : Int) - 17) = ((sz - 17 : Nat) : Int) := by rw [IntWalk.i64_in _ (by omega)]; omega
  have hwb : IntKind.i64.wrap (((sz - 17 : Nat) : Int) + 1) = ((sz - 17 + 1 : Nat) : Int) := by rw [IntWalk.i64_in _ (by omega)]; omega
  have hwc : IntKind.i64.wrap (17 + (k1 : Int)) = ((17 + k1 : Nat) : Int) := by rw [IntWalk.i64_in _ (by omega)]; omega
  have hwd : IntKind.i64.wrap (17 + (k2 : Int)) = ((17 + k2 : Nat) : Int) := by rw [IntWalk.i64_in _ (by omega)]; omega
  have PK1 := Lib.hid PK1
  have PK2 := Lib.hid PK2
  obtain ⟨d1, d2, e1, e2, ps1, g1, ps2, g2, cu1, cu2, sc1, sc2, dn1, dn2, hfi, hp12, hp2⟩ := HLE.out q HQ.out sz HSZ.out (min (17 + k1) (17 + k2)) (max (17 + k1) (17 + k2)) (by omega) (by omega) (by omega)
  have hmi : min ((17 + k1 : Nat) : Int) ((17 + k2 : Nat) : Int) = ((min (17 + k1) (17 + k2) : Nat) : Int) := by omega
  have hma : max ((17 + k1 : Nat) : Int) ((17 + k2 : Nat) : Int) = ((max (17 + k1) (17 + k2) : Nat) : Int) := by omega
  have CU1 := Lib.hid cu1
  have CU2 := Lib.hid cu2
  have SC1 := Lib.hid sc1
  have SC2 := Lib.hid sc2
  have DN1 := Lib.hid dn1
  have DN2 := Lib.hid dn2
  have HFI := Lib.hid hfi
  have HP12 := Lib.hid hp12
  have HP2 := Lib.hid hp2
  generalize 17 + k1 = m1 at hwc hmi hma CU1 CU2
  generalize 17 + k2 = m2 at hwd hmi hma CU1 CU2
  have M1 := Lib.hid hmi
  have M2 := Lib.hid hma
  clear cu1 cu2 sc1 sc2 dn1 dn2 hfi hp12 hp2 HLE hmi hma
  go_wp2_with fail
  refine PK1.out.mono ?_
  rintro e w7 ⟨rfl, rfl⟩
  go_wp2_with fail
  refine PK2.out.mono ?_
  rintro e w7 ⟨rfl, rfl⟩
  have z0 := cell_of B6.out (i := 0) rfl
  have hzl := lt_of_block B6.out
  have hmi := M1.out
  clear hwa hwb PK1 PK2
  go_wp2_with fail
  refine (T6.out.step fun Y _ hY => hY.cut q.name _ CU1.out).mono ?_
  rintro e w8 ⟨rfl, T8, K8⟩
  have T8 := Lib.hid T8.symm
  have A8 := Lib.hid (A6.out.kept K8 HX2.out.1)
  have B8 := Lib.hid ((K8.2 _ HX2.out.2 (lt_of_block B6.out)).trans B6.out)
  have z0 := cell_of B8.out (i := 0) rfl
  have hzl := lt_of_block B8.out
  have hma := M2.out
  clear K8 T6 A6 B6 hmi
  go_wp2_with fail
  refine (T8.out.step fun Y _ hY => hY.cut q.name _ CU2.out).mono ?_
  rintro e w9 ⟨rfl, T9, K9⟩
  have T9 := Lib.hid T9.symm
  have A9 := Lib.hid (A8.out.kept K9 HX2.out.1)
  have B9 := Lib.hid ((K9.2 _ HX2.out.2 (lt_of_block B8.out)).trans B8.out)
  clear K9 T8 A8 B8 hma z0 hzl
  go_wp2_with fail
  refine (Scan_ok T9.out.fst DN1.out SC1.out).mono ?_
  rintro e w10 ⟨v10, p10, rfl, o1, o2⟩
  obtain ⟨xa1, xc1, rfl, -⟩ := o1.1.len
  obtain ⟨ya1, yc1, rfl, -⟩ := o2.1.len
  have OK2 : Hid (∀ e ∈ e2, e.Ok) := Lib.hid (fun e he => A9.out.ok e (HP2.out.subset he))
  have OK1 : Hid (∀ e ∈ e1, e.Ok) := Lib.hid (fun e he => OK2.out e (HP12.out.subset he))
  have U10 : Hid (Evs w10 (.slice xa1 e1.length xc1) e1) := Lib.hid ⟨o1.1.src, OK1.out⟩
  have T10 := Lib.hid (T9.out.nw o1.2.1)
  have A10 := Lib.hid (A9.out.nw o1.2.1)
  have B10 := Lib.hid (o1.2.1.at_ B9.out)
  clear o1 o2 T9 A9 B9
  go_wp2_with fail
  refine (Scan_ok T10.out.symm.fst DN2.out SC2.out).mono ?_
  rintro e w11 ⟨v11, p11, rfl, o1, o2⟩
  obtain ⟨xa2, xc2, rfl, -⟩ := o1.1.len
  obtain ⟨ya2, yc2, rfl, -⟩ := o2.1.len
  have V11 : Hid (Evs w11 (.slice xa2 e2.length xc2) e2) := Lib.hid ⟨o1.1.src, OK2.out⟩
  have T11 := Lib.hid (T10.out.nw o1.2.1)
  have A11 := Lib.hid (A10.out.nw o1.2.1)
  have U11 := Lib.hid (U10.out.nw o1.2.1)
  have B11 := Lib.hid (o1.2.1.at_ B10.out)
  clear o1 o2 T10 A10 B10 U10
  have z1 := cell_of B11.out (i := 1) rfl
  have hzl := lt_of_block B11.out
  have q2 : decide (q.first ≤ (e1.length : Int)) = true := by simpa using HFI.out
  go_wp2_with fail
  refine (begins_ok U11.out V11.out HP12.out).mono ?_
  rintro e w12 ⟨rfl, n12⟩
  have T12 := Lib.hid (T11.out.nw n12)
  have A12 := Lib.hid (A11.out.nw n12)
  have V12 := Lib.hid (V11.out.nw n12)
  clear n12 T11 A11 V11 U11 z1 hzl
  go_wp2_with fail
  refine (begins_ok V12.out A12.out HP2.out).mono ?_
  rintro e w13 ⟨rfl, n13⟩
  have N13 := Lib.hid (T12.out.base.trans n13)
  clear n13 T12 A12 V12
  go_wp2_with fail
  refine (awake6_ok w13 (HT0.out.nw N13.out)).mono ?_
  rintro e w14 ⟨rfl, n14⟩
  have N14 := Lib.hid (N13.out.trans n14)
  clear n14
  go_wp2
  go_ret
  exact ⟨rfl, N14.out⟩
end Go.Proofs.YtphgiobklbpdeaaGreatDoor.RecoverLess
