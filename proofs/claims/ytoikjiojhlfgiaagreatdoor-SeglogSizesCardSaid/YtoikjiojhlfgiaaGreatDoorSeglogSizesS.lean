/-
  Texts merged by a program of this claim's: SeglogSizes.
-/
import Derived.Test.YtoikjiojhlfgiaaGreatDoorM21
import Derived.Test.YtoikjiojhlfgiaaGreatDoorM29
import Derived.Test.YtoikjiojhlfgiaaGreatDoorM33
/-
  amanuensislaw05.SeglogSizes: a piece is sealed when it has size bytes, not ahead of that.
-/
namespace Go.Proofs.YtoikjiojhlfgiaaGreatDoor.SeglogSizes
open Go Go.RowKit Go.Sort
set_option maxRecDepth 100000
set_option maxHeartbeats 1600000

theorem walk (w : World) (ht : Tab w) (v0 : Value) (fs : List (List Ev)) (size : Int) (h0 : RdK 1 (isEvs w) w v0 fs) (_hs : -9223372036854775808 ≤ size ∧ size ≤ 9223372036854775807) :
    Calls Tryz.prog 4 #[v0, .int .i64 size] w fun e w' => e = .returned (.bool true) ∧ Nw w w' := by
  have HT := Lib.hid ht
  have HF := Lib.hid h0
  obtain ⟨a0, c0, rfl, -⟩ := h0.len
  clear ht h0 _hs
  obtain ⟨nf, hnf⟩ : ∃ n, fs.length = n := ⟨_, rfl⟩
  rw [hnf] at HF ⊢
  have HNF := Lib.hid hnf
  clear hnf
  have hp0 := Int.emod_nonneg size (by omega : (300 : Int) ≠ 0)
  have hp1 := Int.emod_lt_of_pos size (by omega : (0 : Int) < 300)
  have hwr : IntKind.i64.wrap (64 + size % 300) = 64 + size % 300 := IntWalk.i64_in _ (by omega)
  obtain ⟨d0, cr, ak⟩ := Sk.new (size := 64 + size % 300) (by omega) (by omega)
  have AK := Lib.hid ak
  have CR := Lib.hid cr
  have HZ0 : Hid (in64 (64 + size % 300)) := Lib.hid ⟨by omega, by omega⟩
  have HSZ : Hid (64 ≤ 64 + size % 300 ∧ 64 + size % 300 ≤ 364) := Lib.hid ⟨by omega, by omega⟩
  clear ak cr hp0 hp1
  go_enter Tryz.func4, Tryz.ntmps4
  go_wp2_with fail
  refine (HasX.new 1048576 w (by omega) (by omega)).mono ?_
  rintro e w1 ⟨b, rfl, H1⟩
  have H1 := Lib.hid H1
  go_wp2_with fail
  refine (Pick_ok size 300 w1 (by omega) (by omega)).mono ?_
  rintro e w2 ⟨rfl, rfl⟩
  have HC := Lib.hid (Create_ok H1.out HT.out (64 + size % 300))
  have hcr := CR.out
  rw [hcr] at HC
  clear hcr
  go_wp2_with fail
  refine HC.out.mono ?_
  rintro e w3 ⟨-, ⟨-, p, rfl, L3⟩ | ⟨hx, -⟩⟩
  case inr => exact absurd rfl hx
  have L3 := Lib.hid L3
  clear HC H1 CR
  go_wp2
  go_loopw [9, 10] (fun la i wr => ∃ (k c a : Nat) (d : Dsk) (L : Lg) (q : Pc), k ≤ 60 ∧ c ≤ k ∧ i = .int .i64 k ∧ la = .int .i64 a ∧ Sk (64 + size % 300) c d L q a ∧ HasL (fun _ => False) w wr p b d L) (fun _ i _ => 60 - (intOf i).toNat)
  case atStart => exact ⟨0, 0, 0, d0, _, _, by omega, by omega, rfl, rfl, AK.out, L3.out⟩
  case round =>
    obtain ⟨k, c, a, d, L, q, hk, hck, rfl, rfl, hak, hL⟩ := hrel
    have AK := Lib.hid hak
    have HL := Lib.hid hL
    clear hak hL
    by_cases h1 : k < nf
    case neg =>
      go_wp2_with fail
      refine (awake_ok wr (HT.out.nw HL.out.base)).mono ?_
      rintro e w6 ⟨rfl, n6⟩
      have N6 := Lib.hid (HL.out.base.trans n6)
      clear n6
      go_wp2
      go_ret
      exact ⟨rfl, N6.out⟩
    by_cases h2 : k < 60
    case neg =>
      go_wp2_with fail
      refine (awake_ok wr (HT.out.nw HL.out.base)).mono ?_
      rintro e w6 ⟨rfl, n6⟩
      have N6 := Lib.hid (HL.out.base.trans n6)
      clear n6
      go_wp2
      go_ret
      exact ⟨rfl, N6.out⟩
    obtain ⟨g, o, ea, ec, rfl, hg, hc0, hev⟩ := frame_at HF.out HNF.out h1
    have hc1 := HL.out.base.cell hc0
    have EV := Lib.hid (hev.nw HL.out.base)
    have hgw : g < wr.heap.size := Nat.lt_of_lt_of_le hg HL.out.base.size
    have HCELL := Lib.hid hc0
    clear hc0 hev hg
    generalize fs[k]'_ = es at hc1 EV HCELL
    obtain ⟨n, hn⟩ : ∃ n, es.length = n := ⟨_, rfl⟩
    have HN := Lib.hid hn
    rw [hn] at hc1 EV HCELL
    clear hn
    by_cases hz : n = 0
    case pos =>
      subst hz
      go_wp2_with fail
      go_roundw
      case rel => exact ⟨k + 1, c, a, d, L, q, by omega, by omega, by go_num, rfl, AK.out, HL.out⟩
      case measure => simp [intOf]; omega
    have hz1 : ((n : Int) == 0) = false := by simp; omega
    by_cases h30 : 30 < n
    case pos =>
      have hz2 : decide ((30 : Int) < (n : Int)) = true := by simp; omega
      go_wp2_with fail
      go_roundw
      case rel => exact ⟨k + 1, c, a, d, L, q, by omega, by omega, by go_num, rfl, AK.out, HL.out⟩
      case measure => simp [intOf]; omega
    have hz2 : decide ((30 : Int) < (n : Int)) = false := by simp; omega
    obtain ⟨z1, z2, z3, z4, z5, z6, z7, z8, -⟩ := AK.out.ak.facts (by omega)
    obtain ⟨A, hi, -⟩ := AK.out.inv
    have hlq := hi.open_
    have hfile := AK.out.file
    have hpos := List.length_pos_iff.2 z1
    obtain ⟨np, hnp⟩ : ∃ n, L.l.length = n := ⟨_, rfl⟩
    obtain ⟨ps, hps⟩ : ∃ n, L.l = n := ⟨_, rfl⟩
    obtain ⟨bl, hbl⟩ : ∃ n, L.bytes = n := ⟨_, rfl⟩
    rw [hbl] at hfile z6
    have HPS := Lib.hid hps
    have HFI := Lib.hid hfile
    have HPO := Lib.hid HL.out.pok
    have hlast : ∀ h, ps[np - 1]'h = q := fun h => by
      have e := lastP_at z1
      rw [hlq] at e
      rw [← e]
      simp only [← hps, ← hnp]
    rw [hnp] at hpos z2
    have hnp2 : ps.length = np := by rw [← hps, hnp]
    have HNP := Lib.hid hnp2
    have HLA := Lib.hid hlast
    have HBL := Lib.hid hbl
    have hq0 := hi.firsts.1
    rw [hps] at HPO
    clear z1 z3 z4 z5 z7 z8 hi hlq hps hfile hlast hnp hnp2 hbl
    go_wp2_with fail
    refine (HL.out.pieces HPS.out (by rw [HNP.out]; omega)).mono ?_
    rintro e w4 ⟨v4, rfl, q1, q2, q3⟩
    have P4 := Lib.hid (q1.pcs HPO.out)
    have N4 := Lib.hid q2
    obtain ⟨pa, pc, rfl, hpc1, hpc2, hel⟩ := P4.out.elem
    rw [HNP.out] at hpc1 P4 ⊢
    obtain ⟨pg, po, rfl, hpg, c0, c1, -, -⟩ := hel (np - 1) (by rw [HNP.out]; omega)
    have L4 : Hid (HasL (fun j => j = pg) w w4 p b d L) := Lib.hid (HL.out.wider q2 fun j hj => .inr (by subst hj; exact ⟨q3 _ rfl, hpg⟩))
    rw [HLA.out] at c0 c1
    clear hel hpc2 q1 q2 q3 HL
    obtain ⟨nq, rfl⟩ : ∃ nq, np = nq + 1 := ⟨np - 1, by omega⟩
    have c0 : w4.cell? ⟨pg, po + nq * 4, none⟩ = some (.string ⟨q.name.toArray⟩) := by simpa using c0
    have c1 : w4.cell? ⟨pg, po + nq * 4 + 1, none⟩ = some (.int .i64 q.first) := by simpa using c1
    have hi2 : IntKind.i64.wrap (nq : Int) = (nq : Int) := IntWalk.i64_in _ (by omega)
    have d4 : ((nq : Int) + 1 == 0) = false := by simp; omega
    go_wp2_with fail
    refine (L4.out.has.size q.name HFI.out).mono ?_
    rintro e w5 ⟨rfl, n5⟩
    have L5 := Lib.hid (L4.out.nw n5)
    have N5 := Lib.hid (N4.out.trans n5)
    have HC0 := Lib.hid (n5.cell c0)
    have HC1 := Lib.hid (n5.cell c1)
    have hpg5 := Nat.lt_of_lt_of_le hpg n5.size
    have EV5 := Lib.hid (EV.out.nw N5.out)
    have hc5 := N5.out.cell hc1
    have hgw5 := Nat.lt_of_lt_of_le hgw N5.out.size
    clear n5 c0 c1 hpg d4 L4 N4 hc1 hgw
    obtain ⟨d', L', p', ad, sk', hn', hcase⟩ := AK.out.add (es := es) (by omega) HSZ.out.1 (by rw [HN.out]; omega) (by rw [HN.out]; omega)
    have C := Ak.call L5.out AK.out.ak (by omega) HZ0.out HT.out EV5.out
    rw [ad] at C
    have C := Lib.hid C
    have SK' := Lib.hid sk'
    have CASE := Lib.hid hcase
    have HN' := Lib.hid hn'
    clear ad sk' hcase hn' hz
    go_wp2_with fail
    refine C.out.mono ?_
    rintro e w6 ⟨rfl, L6, K6⟩
    have L6 := Lib.hid L6
    have HC0' := Lib.hid (K6.cell HC0.out rfl)
    have HC1' := Lib.hid (K6.cell HC1.out rfl)
    have hpg6 := Nat.lt_of_lt_of_le hpg5 K6.1
    have hbase6 := L6.out.base
    have hc6 := Lib.hid (hbase6.cell HCELL.out)
    clear K6 C HC0 HC1 EV hc5 L5 HCELL
    obtain ⟨N, hN⟩ : ∃ N, L'.l.length = N := ⟨_, rfl⟩
    obtain ⟨s, hs⟩ : ∃ s, (fileOf d'.files q.name).bytes.length = s := ⟨_, rfl⟩
    obtain ⟨y, hy⟩ : ∃ y, (fileOf d'.files q.name).synced = y := ⟨_, rfl⟩
    obtain ⟨ln, hln⟩ : ∃ m, L'.n = m := ⟨_, rfl⟩
    have F2 := Lib.hid (SK'.out.ak.facts (by omega))
    have H82 : Hid (∀ w1, Nw w6 w1 → Calls Tryz.prog 20 #[.pointer (some ⟨p, 0, none⟩)] w1 fun e w' => ∃ ax cx, e = .returned (.slice ax N cx) ∧ Nw w1 w') := Lib.hid fun w1 hw =>
      ((L6.out.nw hw).pieces rfl (by have := F2.out.2.1; omega)).mono fun e w' ⟨v', he, q1, q2, _⟩ => by
        obtain ⟨ax, cx, hv, -⟩ := (q1.pcs L6.out.pok).elem
        exact ⟨ax, cx, by rw [he, hv, hN], q2⟩
    have H101 : Hid (∀ w1, Nw w6 w1 → Calls Tryz.prog 22 #[.pointer (some ⟨b, 0, none⟩), .string ⟨q.name.toArray⟩] w1 fun e w' => e = .returned (.int .i64 s) ∧ Nw w1 w') := Lib.hid fun w1 hw =>
      (L6.out.nw hw).has.size q.name hs
    have H108 : Hid (∀ w1, Nw w6 w1 → Calls Tryz.prog 23 #[.pointer (some ⟨b, 0, none⟩), .string ⟨q.name.toArray⟩] w1 fun e w' => e = .returned (.int .i64 y) ∧ Nw w1 w') := Lib.hid fun w1 hw =>
      (L6.out.nw hw).has.synced q.name hy
    have H126 : Hid (∀ w1, Nw w6 w1 → Calls Tryz.prog 19 #[.pointer (some ⟨p, 0, none⟩)] w1 fun e w' => e = .returned (.int .i64 ln) ∧ w1 = w') := Lib.hid fun w1 hw =>
      (L6.out.nw hw).len hln
    have HW : Hid ((N = nq + 1 ∧ (bl : Int) < 64 + size % 300 ∧ bl < s) ∨ (N = nq + 1 ∧ 64 + size % 300 ≤ (bl : Int) ∧ bl < s ∧ (ln : Int) - n ≤ q.first) ∨ (N = nq + 2 ∧ 64 + size % 300 ≤ (bl : Int) ∧ s = bl ∧ (bl : Int) - a < 64 + size % 300 ∧ y = bl)) := by
      have b1 := HBL.out
      have b2 := AK.out.sz
      have b3 := HPS.out
      have b4 := HNP.out
      have b5 := HN'.out
      have b6 := HN.out
      have b7 := frmB_pos es
      have b8 := AK.out.less
      refine Lib.hid ?_
      rcases CASE.out with ⟨-, st⟩ | mo
      · have c1 := st.not
        have c2 := st.file
        rw [st.l, b3, b4] at hN
        rw [hs] at c2
        by_cases c3 : (bl : Int) < 64 + size % 300
        · exact .inl ⟨by omega, c3, by omega⟩
        · have c4 : ¬ q.first < (L.n : Int) := fun h => c1 ⟨h, by omega⟩
          exact .inr (.inl ⟨by omega, by omega, by omega, by omega⟩)
      · obtain ⟨c1, c2⟩ := mo.sealed_
        have c3 := mo.len
        have c4 := mo.file
        have c5 := mo.synced
        have c6 := b8 c1
        rw [b3, b4] at c3
        exact .inr (.inr ⟨by omega, by omega, by omega, by omega, by omega⟩)
    have HAB : Hid (a ≤ bl) := Lib.hid (by have h1 := AK.out.last_; have h2 := HBL.out; omega)
    have HLN : Hid (ln ≤ 100000000) := Lib.hid (by have h1 := F2.out.2.2.2.2.1; omega)
    have HNQ : Hid (nq ≤ 1000) := Lib.hid (by omega)
    go_upto_region 18 with fail
    refine r18 H82 H101 H108 H126 hc6 HC1' (fun _ _ _ _ _ h => h) HW.out h1 HNQ.out (by omega) HAB.out HLN.out (by omega) ?_
    intro s81 s82 s83 s84 s85 s86 s87 s88 s89 s90 s91 s92 s93 s94 s95 s96 s97 s98 s99 s100 s101 s102 s103 s104 s105 s106 s107 s108 s109 s110 s111 s112 s113 s114 s115 s116 s117 s118 s119 s120 s121 s122 s123 s124 s125 s126 s127 s128 s129 s130 s131 s132 s133 s134 s135 s136 s137 s138 s139 s140 s141 s142 s143 s144 s145 s146 s147 s148 s149 w7 n7
    have L7 := Lib.hid (L6.out.nw n7)
    clear H82 H101 H108 H126 HW hc6 HC1' HC0' n7
    obtain ⟨A', hi', -⟩ := SK'.out.inv
    have hl' := hi'.open_
    obtain ⟨y1, y2, -, -, -, y6, -, -, -⟩ := F2.out
    have hpos' := List.length_pos_iff.2 y1
    have hlast2 := lastP_at y1
    rw [hl'] at hlast2
    obtain ⟨ps', hps'⟩ : ∃ x, L'.l = x := ⟨_, rfl⟩
    obtain ⟨m, rfl⟩ : ∃ m, N = m + 1 := ⟨N - 1, by omega⟩
    have hN2 : ps'.length = m + 1 := by rw [← hps', hN]
    have HN2 := Lib.hid hN2
    have hlast3 : ∀ h, ps'[m]'h = p' := fun h => by
      rw [← hlast2]
      simp only [hps', hN2]
      rfl
    have HL3 := Lib.hid hlast3
    have HPS' := Lib.hid hps'
    have hpok' := L7.out.pok
    rw [hps'] at hpok'
    have HPO' := Lib.hid hpok'
    obtain ⟨s2, hs2⟩ : ∃ s, (fileOf d'.files p'.name).bytes.length = s := ⟨_, rfl⟩
    have HS2 := Lib.hid hs2
    have HM : Hid (m ≤ 61) := Lib.hid (by omega)
    have HB2 : Hid (s2 ≤ 74358) := Lib.hid (by have h1 := SK'.out.file; omega)
    have HZ6 : Hid (bl ≤ 74358) := Lib.hid z6
    have HSO := Lib.hid hs
    clear hi' hl' y1 y2 y6 hpos' hlast2 hlast3 hN2 hps' hpok' hs2 hN hs hy hln
    go_wp2_with fail
    refine (L7.out.pieces HPS'.out (by rw [HN2.out]; have := HM.out; omega)).mono ?_
    rintro e w8 ⟨v8, rfl, q1, q2, q3⟩
    have P8 := Lib.hid (q1.pcs HPO'.out)
    have L8 := Lib.hid (L7.out.nw q2)
    obtain ⟨pa8, pc8, rfl, -, -, hel⟩ := P8.out.elem
    obtain ⟨pg8, po8, rfl, hpg8, c0, c1, -, -⟩ := hel m (by rw [HN2.out]; omega)
    rw [HL3.out] at c0 c1
    rw [HN2.out]
    have hi2 : IntKind.i64.wrap (m : Int) = (m : Int) := IntWalk.i64_in _ (by have := HM.out; omega)
    have d4 : ((m : Int) + 1 == 0) = false := by simp; omega
    clear hel q1 q2 q3 P8
    go_wp2_with fail
    refine (L8.out.has.size p'.name HS2.out).mono ?_
    rintro e w9 ⟨rfl, n9⟩
    have L9 := Lib.hid (L8.out.nw n9)
    have C0 := Lib.hid (n9.cell c0)
    have C1 := Lib.hid (n9.cell c1)
    clear n9 c0 c1
    have HI2 := Lib.hid hi2
    clear hi2
    rcases CASE.out with ⟨he, st⟩ | mo
    · have e2 : s2 = bl + (frmB es).length := by
        have h1 := HS2.out
        have h2 := st.file
        have h3 := HBL.out
        rw [he] at h1
        omega
      have hi5 : IntKind.i64.wrap ((s2 : Int) - bl) = ((frmB es).length : Nat) := by
        rw [IntWalk.i64_in _ (by have h1 := HB2.out; have h2 := HZ6.out; omega)]
        omega
      have hne : (p'.name == q.name) = true := by rw [he]; simp
      have ST := Lib.hid st
      clear st e2
      go_upto_region 22 with fail
      clear hi5
      have hi2 := HI2.out
      have c0 := C0.out
      go_wp2_with fail
      go_roundw
      case rel => exact ⟨k + 1, c + 1, (frmB es).length, d', L', p', by omega, by omega, by go_num, rfl, SK'.out, L9.out.wider (Nw.refl _) fun _ h => h.elim⟩
      case measure => simp [intOf]; omega
    · have hi5 : IntKind.i64.wrap ((s2 : Int) - bl) = (s2 : Int) - bl := IntWalk.i64_in _ (by have h1 := HB2.out; have h2 := HZ6.out; omega)
      have hne : (p'.name == q.name) = false := by have h1 := mo.other; simpa using h1
      have MO := Lib.hid mo
      clear mo
      have HLn : Hid (L.n ≤ 1800) := Lib.hid (by have h1 := HN'.out; have h2 := F2.out.2.2.2.2.1; omega)
      have c1 := C1.out
      rw [MO.out.first] at c1
      have C1' := Lib.hid c1
      clear c1
      go_upto_region 22 with fail
      clear hi5
      have hi2 := HI2.out
      have c0 := C0.out
      go_upto_region 23 with fail
      have c1 := C1'.out
      go_wp2_with fail
      refine (Head_ok L.n (by have := HLn.out; omega) w9).mono ?_
      rintro e w10 ⟨vh, rfl, V1, V2, -⟩
      obtain ⟨hd, hhd⟩ : ∃ x, (headB L.n).length = x := ⟨_, rfl⟩
      rw [hhd] at V1
      obtain ⟨ha, hcap, rfl, -, -⟩ := V1.len
      have L10 := Lib.hid (L9.out.nw V2)
      have C0' := Lib.hid (V2.cell C0.out)
      have e2 : s2 = hd + (frmB es).length := by
        have h1 := HS2.out
        have h2 := MO.out.file'
        omega
      have hi6 : IntKind.i64.wrap ((s2 : Int) - hd) = ((frmB es).length : Nat) := by
        rw [IntWalk.i64_in _ (by have h1 := HB2.out; omega)]
        omega
      have HI6 := Lib.hid hi6
      clear V1 V2 c1 c0 hhd hi6 e2
      have c0 := C0'.out
      go_wp2_with fail
      refine (L10.out.has.size p'.name HS2.out).mono ?_
      rintro e w11 ⟨rfl, n11⟩
      have L11 := Lib.hid (L10.out.nw n11)
      have hi6 := HI6.out
      clear n11 c0 hi2
      go_wp2_with fail
      go_roundw
      case rel => exact ⟨k + 1, c + 1, (frmB es).length, d', L', p', by omega, by omega, by go_num, rfl, SK'.out, L11.out.wider (Nw.refl _) fun _ h => h.elim⟩
      case measure => simp [intOf]; omega
end Go.Proofs.YtoikjiojhlfgiaaGreatDoor.SeglogSizes
