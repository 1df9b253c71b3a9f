/-
  Texts merged by a program of this claim's: Ref05C, Sames, Picks.
-/
import Derived.Test.YtkhcdbafcigeoaaGreatDoorM19
import Derived.BigQuiet
import Derived.Test.YtkhcdbafcigeoaaGreatDoorM10
import Derived.Test.YtkhcdbafcigeoaaGreatDoorM9
import Derived.Laws.StructEq
import Derived.Test.YtkhcdbafcigeoaaGreatDoorM7
import Derived.Test.YtkhcdbafcigeoaaGreatDoorM5
/-
  The document's reader of manifests (amanuensisref05.Listed), walked: it is listedB.
-/
namespace Go.Proofs.YtkhcdbafcigeoaaGreatDoor
open Go Go.RowKit Go.Sort
set_option maxRecDepth 100000
set_option maxHeartbeats 3200000
theorem take_eq_prefix {a b : List UInt8} {k : Nat} (h : a.take k = b.take k) (hk : b.length = k) (_ha : k ≤ a.length) : b <+: a := by
  rw [List.take_of_length_le (by omega : b.length ≤ k)] at h
  exact ⟨a.drop k, by rw [← h]; exact List.take_append_drop k a⟩
theorem not_prefix {a b : List UInt8} {k : Nat} (hk : k < b.length) (h : a.length ≤ k ∨ ∃ (h : k < a.length), a[k] ≠ b[k]) : ¬ b <+: a := by
  rintro ⟨t, rfl⟩
  rcases h with h | ⟨h, h2⟩
  · rw [List.length_append] at h; omega
  · exact h2 (List.getElem_append_left hk)
theorem dListed_ok {w : World} {v : Value} {l : List UInt8} (hv : Bs w v l) (hl : l.length ≤ 14000000) {r : List Pc} {e : Int} (hr : listedB l = (r, e)) :
    Calls Tryz.prog 13 #[v] w fun z w' => ∃ v', z = .returned (.tuple #[v', .int .i64 e]) ∧ OwnP w w' v' r := by
  obtain ⟨a, cap, rfl, h1, h2, hel⟩ := hv.elems
  obtain ⟨⟨u, e1⟩, hun⟩ : ∃ y, unsealB l = y := ⟨_, rfl⟩
  have HUN := Lib.hid (rUnseal_ok hv hl hun)
  have hul := unsealB_len (b := l)
  unfold listedB at hr
  rw [hun] at hr hul
  simp only at hr hul
  clear hv h1 h2 hel hun
  by_cases c1 : e1 = 0
  case neg =>
    have q1 : (e1 != 0) = true := by simpa using c1
    rw [if_pos c1] at hr
    obtain ⟨rfl, rfl⟩ : [] = r ∧ e1 = e := by simpa using hr
    clear hul hr
    go_enter Tryz.func13, Tryz.ntmps13
    go_wp2_with fail
    refine HUN.out.mono ?_
    rintro z w1 ⟨v1, rfl, -, n1⟩
    have N1 := Lib.hid n1
    clear n1
    go_wp2
    refine bodyPost_ret (v := .tuple #[.slice none 0 0, .int .i64 e1]) (by simp [results, Tryz.results13, go_sem]) rfl ⟨_, rfl, OwnP.nil N1.out⟩
  subst c1
  have hul := hul rfl
  rw [if_neg (by simp)] at hr
  obtain ⟨ul, hulen⟩ : ∃ x, u.length = x := ⟨_, rfl⟩
  have HBAD : Hid (¬ magicS <+: u → [] = r ∧ 10 = e) := Lib.hid (fun h => by
    unfold listedIn at hr
    rw [if_pos h] at hr
    simpa using hr)
  obtain ⟨⟨n0, x0, e0⟩, hu⟩ : ∃ y, getU u 4 = y := ⟨_, rfl⟩
  have hf := getU_fine (b := u) (at_ := 4)
  rw [hu] at hf
  simp only at hf
  have HGU := Lib.hid (fun (W : World) (v : Value) (hb : Bs W v u) => rGetUint_ok hb (by omega) 4 (by omega) (by omega) hu)
  have HF := Lib.hid hf
  have HR : Hid (magicS <+: u → (if e0 ≠ 0 then (([] : List Pc), (10 : Int)) else match pcsFrom u n0 x0 [] with
      | none => ([], 10)
      | some (l, at_) => if at_ < u.length then ([], 10) else if rightL l then (l, 0) else ([], 14)) = (r, e)) := Lib.hid (fun h => by
    unfold listedIn at hr
    rw [if_neg (by simpa using h), hu] at hr
    exact hr)
  have hul2 : ul ≤ 14000000 := by omega
  have HUL := Lib.hid hulen
  clear hu hf hr hul hulen
  go_enter Tryz.func13, Tryz.ntmps13
  go_wp2_with fail
  refine HUN.out.mono ?_
  rintro z w1 ⟨v1, rfl, b1, n1⟩
  obtain ⟨xa, xc, rfl, hxc, -, hel⟩ := b1.elems
  rw [HUL.out] at b1 hxc ⊢
  have NL := (Nw.refl w1).alloc (.cells #[.int .u8 65, .int .u8 77, .int .u8 77, .int .u8 49] 5 (0, 0))
  have M1 : Bs (w1.alloc (.cells #[.int .u8 65, .int .u8 77, .int .u8 77, .int .u8 49] 5 (0, 0))) (.slice (some ⟨w1.heap.size, 0, none⟩) 4 4) magicS := rd_lit (f := u8) w1 5 (0, 0) magicS _ 4 rfl (by decide) (by decide)
  have EL := Lib.hid (fun i (hi : i < u.length) => hel i hi)
  obtain ⟨ma, mcap, hme, -, -, hml⟩ := M1.elems
  have ML := Lib.hid (fun i (hi : i < 4) => hml i hi)
  cases hme
  have N1 := Lib.hid n1
  have B1 := Lib.hid b1
  have NL := Lib.hid NL
  clear n1 b1 hel hml M1 HUN
  go_wp2
  go_loopw [7] (fun iv wr => ∃ k : Nat, k ≤ 4 ∧ k ≤ ul ∧ iv = .int .i64 k ∧ u.take k = magicS.take k ∧ Nw (w1.alloc (.cells #[.int .u8 65, .int .u8 77, .int .u8 77, .int .u8 49] 5 (0, 0))) wr) (fun iv _ => 4 - (intOf iv).toNat)
  case atStart => exact ⟨0, by omega, by omega, rfl, rfl, Nw.refl _⟩
  case round =>
    obtain ⟨k, hk, hku0, rfl, htk, hw⟩ := hrel
    have HTK := Lib.hid htk
    have HW := Lib.hid hw
    have N2 := Lib.hid (N1.out.trans (NL.out.trans hw))
    clear htk hw
    by_cases hk4 : k < 4
    · obtain ⟨mg, mo, hme, hmg, hmc⟩ := ML.out k hk4
      cases hme
      have z1 := HW.out.cell hmc
      rw [Nat.zero_add] at z1
      have hmg' := Nat.lt_of_lt_of_le hmg HW.out.size
      obtain ⟨cb, hcb⟩ : ∃ cb : UInt8, cb = magicS[k]'hk4 := ⟨_, rfl⟩
      rw [← hcb] at z1
      have HCB := Lib.hid hcb
      clear hmc hmg hcb
      change World.cell? _ _ = some (.int .u8 (cb.toNat : Int)) at z1
      by_cases hku : k < ul
      · obtain ⟨ug, uo, rfl, hug, huc⟩ := EL.out k (by rw [HUL.out]; exact hku)
        have z2 := ((NL.out.trans HW.out).cell huc)
        have hug' := Nat.lt_of_lt_of_le hug (NL.out.trans HW.out).size
        obtain ⟨ca, hca⟩ : ∃ ca : UInt8, ca = u[k]'(by rw [HUL.out]; exact hku) := ⟨_, rfl⟩
        rw [← hca] at z2
        have HCA := Lib.hid hca
        clear huc hug hca
        change World.cell? _ _ = some (.int .u8 (ca.toNat : Int)) at z2
        have hd1 : decide ((ul : Int) ≤ (k : Int)) = false := by simp; omega
        have hd2 : decide (ul ≤ k) = false := by simp; omega
        by_cases hcc : ca = cb
        · have heq : ((ca.toNat : Int) != (cb.toNat : Int)) = false := by rw [hcc]; simp
          have hsnoc : Hid (u.take (k + 1) = magicS.take (k + 1)) := Lib.hid (by
            rw [List.take_add_one, List.take_add_one, HTK.out, List.getElem?_eq_getElem (by rw [HUL.out]; exact hku), List.getElem?_eq_getElem (l := magicS) hk4, ← HCA.out, ← HCB.out, hcc])
          have hwk : IntKind.i64.wrap ((k : Int) + 1) = ((k + 1 : Nat) : Int) := by rw [← Int.natCast_one, ← Int.natCast_add]; exact IntWalk.i64_in _ (by omega)
          clear hcc
          go_upto_region 8 with fail
          go_quiet (fail)
          go_wp2_with fail
          go_roundw
          case rel => exact ⟨k + 1, by omega, by omega, by first | rfl | (simp; done) | rw [hwk], hsnoc.out, HW.out.drewN _⟩
          case measure => simp only [intOf]; omega
        · have hne : ((ca.toNat : Int) != (cb.toNat : Int)) = true := by
            simp only [bne_iff_ne, ne_eq, Int.ofNat_inj]
            exact fun h => hcc (UInt8.toNat_inj.1 h)
          have r0 := HBAD.out (not_prefix (k := k) hk4 (.inr ⟨by rw [HUL.out]; exact hku, by rw [← HCA.out, ← HCB.out]; exact hcc⟩))
          obtain ⟨rfl, rfl⟩ := r0
          go_upto_region 8 with fail
          go_quiet (fail)
          go_wp2_with fail
          refine bodyPost_ret (v := .tuple #[.slice none 0 0, .int .i64 10]) (by simp [results, Tryz.results13, go_sem]) rfl ⟨_, rfl, OwnP.nil (N2.out.drewN _)⟩
      · have hd1 : decide ((ul : Int) ≤ (k : Int)) = true := by simp; omega
        have hd2 : decide (ul ≤ k) = true := by simp; omega
        have r0 := HBAD.out (not_prefix (k := k) hk4 (.inl (by rw [HUL.out]; omega)))
        obtain ⟨rfl, rfl⟩ := r0
        go_upto_region 8 with fail
        go_quiet (fail)
        go_wp2_with fail
        refine bodyPost_ret (v := .tuple #[.slice none 0 0, .int .i64 10]) (by simp [results, Tryz.results13, go_sem]) rfl ⟨_, rfl, OwnP.nil (N2.out.drewN _)⟩
    · obtain rfl : k = 4 := by omega
      have hpre : magicS <+: u := take_eq_prefix HTK.out rfl (by rw [HUL.out]; omega)
      have hr := HR.out hpre
      have B2 := Lib.hid (B1.out.nw (NL.out.trans HW.out))
      have NN2 := Lib.hid (NL.out.trans HW.out)
      clear hpre HBAD HR HTK EL ML HW B1 NL hk4 hk
      have hno : ¬ ((4 : Int) < 4) := by omega
      have C1 := Lib.hid (HGU.out _ _ B2.out)
      clear HGU
      by_cases c3 : e0 = 0
      case neg =>
        have q1 : (e0 != 0) = true := by simpa using c3
        rw [if_pos c3] at hr
        obtain ⟨rfl, rfl⟩ : [] = r ∧ 10 = e := by simpa using hr
        clear hr HF
        go_wp2_with fail
        refine C1.out.mono ?_
        rintro z w3 ⟨rfl, n3⟩
        have N3 := Lib.hid (N2.out.trans n3)
        clear n3
        go_wp2_with fail
        refine bodyPost_ret (v := .tuple #[.slice none 0 0, .int .i64 10]) (by simp [results, Tryz.results13, go_sem]) rfl ⟨_, rfl, OwnP.nil N3.out⟩
      subst c3
      obtain ⟨-, f1, f2, f3⟩ := HF.out rfl
      rw [if_neg (by simp)] at hr
      obtain ⟨E, hE⟩ : ∃ E, pcsFrom u n0 x0 [] = E := ⟨_, rfl⟩
      rw [hE] at hr
      have HE := Lib.hid hE
      have HR := Lib.hid hr
      rw [HUL.out] at f2
      clear hr hE HF
      go_wp2_with fail
      refine C1.out.mono ?_
      rintro z w3 ⟨rfl, n3⟩
      have N3 := Lib.hid (N2.out.trans n3)
      have B3 := Lib.hid (B2.out.nw n3)
      clear n3 C1 B2 NN2 N2
      have hn64 : n0 < 18446744073709551616 := by omega
      go_wp2_with fail
      go_loopw [9, 10, 11] (fun av sv iv wr => ∃ (k cnt : Nat) (at_ : Int) (acc : List Pc), iv = .int .u64 k ∧ k ≤ n0 ∧ av = .int .i64 at_ ∧ 0 ≤ at_ ∧ at_ ≤ ul ∧ pcsFrom u (n0 - k) at_ acc = E ∧ Vec 4 wr sv cnt (acc.flatMap pcV) ∧ acc.length = cnt ∧ (cnt : Int) ≤ at_ ∧ (∀ q ∈ acc, q.Ok) ∧ Nw w wr ∧ Nw w3 wr ∧ ∀ g, sv.ownBlock = some g → w3.heap.size ≤ g) (fun _ _ iv _ => n0 - (intOf iv).toNat)
      case atStart => exact ⟨0, 0, x0, [], rfl, by omega, rfl, by omega, f2, HE.out, Vec.nil, rfl, by omega, (fun q hq => by cases hq), N3.out, Nw.refl _, fun g hg => by cases hg⟩
      case round =>
        obtain ⟨k, cnt, at_, acc, rfl, hk, rfl, ha0, ha1, hE1, hs, hcnt, hcl, hok, hw, hw3, hfr⟩ := hrel
        obtain ⟨sa, sc, rfl, -⟩ := hs.len
        have HS := Lib.hid (And.intro hs (And.intro hw hfr))
        have HE1 := Lib.hid hE1
        have HC := Lib.hid hcnt
        have HOK := Lib.hid hok
        have HW3 := Lib.hid hw3
        have B4 := Lib.hid (B3.out.nw hw3)
        clear hs hw hfr hE1 hcnt hok hw3
        by_cases hkn : k < n0
        · obtain ⟨m', hm'⟩ : ∃ m', n0 - k = m' + 1 := ⟨n0 - k - 1, by omega⟩
          have HM : Hid (n0 - (k + 1) = m') := Lib.hid (by omega)
          obtain ⟨y, hy⟩ : ∃ y, pieceR u at_ = y := ⟨_, rfl⟩
          have HNO : Hid (pieceR u at_ = none → [] = r ∧ 10 = e) := Lib.hid (fun h => by
            have rr := HE1.out
            rw [hm', pcsFrom_none h] at rr
            have r2 := HR.out
            rw [← rr] at r2
            simpa using r2)
          have HSO : Hid (∀ p x, pieceR u at_ = some (p, x) → pcsFrom u m' x (acc ++ [p]) = E) := Lib.hid (fun p x h => by
            have rr := HE1.out
            rw [hm', pcsFrom_some h] at rr
            exact rr)
          obtain ⟨⟨nm, x1, e1⟩, hb⟩ : ∃ y, getB u at_ 40 = y := ⟨_, rfl⟩
          have HB := Lib.hid (rGetBlob_ok (B4.out) (by rw [HUL.out]; omega) at_ 40 (by omega) (by omega) (by omega) (by omega) hb)
          have hbf : e1 = 0 → 0 ≤ x1 ∧ x1 ≤ ul := fun h0 => by
            unfold getB at hb
            split at hb
            · rename_i hx; cases hb; exact absurd h0 hx
            · rename_i h1
              have := getU_fine (b := u) (at_ := at_) (by rcases Decidable.em ((getU u at_).2.2 = 0) with h | h; exact h; exact absurd h h1)
              rw [HUL.out] at this hb
              split at hb
              · cases hb; cases h0
              · split at hb
                · cases hb; cases h0
                · cases hb; omega
          have hyy := hy
          unfold pieceR at hyy
          rw [hb] at hyy
          simp only at hyy
          rw [HUL.out] at hyy
          have HY := Lib.hid hy
          have q5 : decide ((k : Int) < (n0 : Int)) = true := by simp; omega
          clear hy hb hm'
          by_cases c1 : e1 = 0
          case neg =>
            have q1 : (e1 != 0) = true := by simpa using c1
            rw [if_pos c1] at hyy
            subst hyy
            obtain ⟨rfl, rfl⟩ := HNO.out HY.out
            clear hbf
            go_wp2_with fail
            refine HB.out.mono ?_
            rintro z w4 ⟨v4, rfl, -, n4⟩
            have N4 := Lib.hid (HS.out.2.1.trans n4)
            clear n4
            go_wp2_with fail
            refine bodyPost_ret (v := .tuple #[.slice none 0 0, .int .i64 10]) (by simp [results, Tryz.results13, go_sem]) rfl ⟨_, rfl, OwnP.nil N4.out⟩
          subst c1
          obtain ⟨g0, g1⟩ := hbf rfl
          rw [if_neg (by simp)] at hyy
          obtain ⟨⟨fn, x2, e2⟩, hu⟩ : ∃ y, getU u x1 = y := ⟨_, rfl⟩
          have hf2 := getU_fine (b := u) (at_ := x1)
          rw [hu] at hyy hf2
          rw [HUL.out] at hf2
          simp only at hyy hf2
          have HU1 := Lib.hid (fun W v (hb : Bs W v u) => rGetUint_ok hb (by rw [HUL.out]; omega) x1 (by omega) (by omega) hu)
          clear hbf hu
          go_wp2_with fail
          refine HB.out.mono ?_
          rintro z w4 ⟨v4, rfl, b4, n4⟩
          obtain ⟨na, nc, rfl, -⟩ := b4.len
          obtain ⟨nl, hnl⟩ : ∃ x, nm.length = x := ⟨_, rfl⟩
          rw [hnl] at b4 ⊢
          have BN := Lib.hid b4
          have N4 := Lib.hid n4
          have B5 := Lib.hid (B4.out.nw n4)
          clear b4 n4 HB hnl
          have C2 := Lib.hid (HU1.out _ _ B5.out)
          clear HU1
          go_wp2_with fail
          refine C2.out.mono ?_
          rintro z w5 ⟨rfl, n5⟩
          have N5 := Lib.hid (N4.out.trans n5)
          have BN5 := Lib.hid (BN.out.nw n5)
          have B6 := Lib.hid (B5.out.nw n5)
          clear n5 C2 BN N4 B5
          go_upto_region 21 with fail
          go_cut [79] (fun t wx => t = .bool (decide (e2 ≠ 0 ∨ 4611686018427387904 < fn)) ∧ wx = w5)
          case first =>
            by_cases c2 : e2 = 0
            · subst c2
              have hd : ((4611686018427387904 : Int) < (fn : Int)) ↔ 4611686018427387904 < fn := by omega
              go_wp2_with fail
              go_meet
              case rel => exact ⟨by simp [hd], rfl⟩
            · have q1 : (e2 != 0) = true := by simpa using c2
              go_wp2_with fail
              go_meet
              case rel => exact ⟨by simp [c2], rfl⟩
          case rest =>
            obtain ⟨rfl, rfl⟩ := hcut
            by_cases c2 : e2 ≠ 0 ∨ 4611686018427387904 < fn
            · have q1 : decide (e2 ≠ 0 ∨ 4611686018427387904 < fn) = true := by simpa using c2
              rw [if_pos c2] at hyy
              subst hyy
              obtain ⟨rfl, rfl⟩ := HNO.out HY.out
              rw [q1]
              clear q1 c2 hf2
              go_wp2_with fail
              refine bodyPost_ret (v := .tuple #[.slice none 0 0, .int .i64 10]) (by simp [results, Tryz.results13, go_sem]) rfl ⟨_, rfl, OwnP.nil (HS.out.2.1.trans N5.out)⟩
            have q1 : decide (e2 ≠ 0 ∨ 4611686018427387904 < fn) = false := by simpa using c2
            rw [if_neg c2] at hyy
            rw [q1]
            simp only [not_or, Decidable.not_not] at c2
            obtain ⟨c2, c3⟩ := c2
            subst c2
            obtain ⟨-, g2, g3, g4⟩ := hf2 rfl
            obtain ⟨⟨cn, x3, e3⟩, hu⟩ : ∃ y, getU u x2 = y := ⟨_, rfl⟩
            have hf3 := getU_fine (b := u) (at_ := x2)
            rw [hu] at hyy hf3
            rw [HUL.out] at hf3
            simp only at hyy hf3
            have C3 := Lib.hid (rGetUint_ok B6.out (by rw [HUL.out]; omega) x2 (by omega) (by omega) hu)
            clear hu hf2 q1
            go_wp2_with fail
            refine C3.out.mono ?_
            rintro z w6 ⟨rfl, n6⟩
            have N6 := Lib.hid (N5.out.trans n6)
            have BN6 := Lib.hid (BN5.out.nw n6)
            have B7 := Lib.hid (B6.out.nw n6)
            clear n6 C3 BN5 N5 B6
            obtain ⟨D, hD⟩ : ∃ D, u.getD x3.toNat 0 = D := ⟨_, rfl⟩
            rw [hD] at hyy
            have HCELL : Hid (e3 = 0 → x3 ≠ ul → ∃ (k3 : Nat) (g o : Nat), x3 = k3 ∧ k3 < ul ∧ xa = some ⟨g, o, none⟩ ∧ g < w6.heap.size ∧ w6.cell? ⟨g, o + k3, none⟩ = some (.int .u8 (D.toNat : Int))) := Lib.hid (fun h0 h1 => by
              obtain ⟨-, g5, g6, g7⟩ := hf3 h0
              obtain ⟨k3, rfl⟩ : ∃ k : Nat, x3 = k := ⟨x3.toNat, by omega⟩
              have hk3 : k3 < u.length := by rw [HUL.out]; omega
              obtain ⟨ya, yc, hye, -, -, hyl⟩ := B7.out.elems
              obtain ⟨g, o, h2, h3, h4⟩ := hyl k3 hk3
              cases hye
              refine ⟨k3, g, o, rfl, by omega, h2, h3, ?_⟩
              have hget : u.getD (k3 : Int).toNat 0 = u[k3] := by simp [List.getD, hk3]
              rw [hget] at hD
              rw [← hD]
              exact h4)
            clear hD
            go_upto_region 24 with fail
            go_cut [105] (fun t wx => t = .bool (decide (e3 ≠ 0 ∨ 4611686018427387904 < cn ∨ x3 = (ul : Int) ∨ 1 < D.toNat)) ∧ wx = w6)
            case first =>
              by_cases d1 : e3 = 0
              case neg =>
                have q1 : (e3 != 0) = true := by simpa using d1
                go_wp2_with fail
                go_meet
                case rel => exact ⟨by simp [d1], rfl⟩
              subst d1
              by_cases d2 : 4611686018427387904 < cn
              · have q1 : decide ((4611686018427387904 : Int) < (cn : Int)) = true := by simp; omega
                go_wp2_with fail
                go_meet
                case rel => exact ⟨by simp [d2], rfl⟩
              have q1 : decide ((4611686018427387904 : Int) < (cn : Int)) = false := by simp; omega
              by_cases d3 : x3 = (ul : Int)
              · have q2 : (x3 == (ul : Int)) = true := by simpa using d3
                have D3 := Lib.hid d3
                clear d3
                go_wp2_with fail
                go_meet
                case rel => exact ⟨by simp [D3.out], rfl⟩
              have q2 : (x3 == (ul : Int)) = false := by simpa using d3
              obtain ⟨k3, pg, po, rfl, hk3, rfl, hpg, hcell⟩ := HCELL.out rfl d3
              clear HCELL
              have hdd : ((1 : Int) < (D.toNat : Int)) ↔ 1 < D.toNat := by omega
              go_wp2_with fail
              go_meet
              case rel => exact ⟨by simp [d2, d3], rfl⟩
            case rest =>
              obtain ⟨rfl, rfl⟩ := hcut
              by_cases c4 : e3 ≠ 0 ∨ 4611686018427387904 < cn ∨ x3 = (ul : Int) ∨ 1 < D.toNat
              · have q1 : decide (e3 ≠ 0 ∨ 4611686018427387904 < cn ∨ x3 = (ul : Int) ∨ 1 < D.toNat) = true := by simpa using c4
                rw [if_pos c4] at hyy
                subst hyy
                obtain ⟨rfl, rfl⟩ := HNO.out HY.out
                rw [q1]
                clear q1 c4 hf3 HCELL
                go_wp2_with fail
                refine bodyPost_ret (v := .tuple #[.slice none 0 0, .int .i64 10]) (by simp [results, Tryz.results13, go_sem]) rfl ⟨_, rfl, OwnP.nil (HS.out.2.1.trans N6.out)⟩
              have q1 : decide (e3 ≠ 0 ∨ 4611686018427387904 < cn ∨ x3 = (ul : Int) ∨ 1 < D.toNat) = false := by simpa using c4
              rw [if_neg c4] at hyy
              rw [q1]
              simp only [not_or, Decidable.not_not] at c4
              obtain ⟨d1, d2, d3, d4⟩ := c4
              subst d1
              obtain ⟨k3, pg, po, rfl, hk3, rfl, hpg, hcell⟩ := HCELL.out rfl d3
              obtain ⟨pd, hpd⟩ : ∃ b, decide (D = 1) = b := ⟨_, rfl⟩
              rw [hpd] at hyy
              subst hyy
              have HSO2 := Lib.hid (HSO.out _ _ HY.out)
              obtain ⟨-, j2, j3, j4⟩ := pieceR_fine HY.out
              have HPK := Lib.hid j4
              have hcnt : cnt ≤ 14000000 := by omega
              have HD : Hid (((D.toNat : Int) == 1) = pd) := Lib.hid (by
                rw [← hpd]
                by_cases h : D = 1
                · subst h; rfl
                · have : ¬ ((D.toNat : Int) = 1) := fun h2 => by
                    have h3 : D.toNat = 1 := by omega
                    exact h (UInt8.toNat_inj.1 (by simpa using h3))
                  simp [h, this])
              clear q1 hf3 HCELL HNO HSO HY hpd j4 d4 HE1
              go_wp2_with fail
              go_upto_region 26 with fail
              refine dListed.r26 (x1 := (fn : Int)) (y1 := (cn : Int)) (cb := (D.toNat : Int)) (pd := pd) (cs := acc.flatMap pcV) (nm := nm) (Lib.hid (HS.out.1.nw N6.out)) BN6 (Lib.hid hcell) (Lib.hid hpg) (Lib.hid hk3) HD (Lib.hid (IntWalk.i64_in _ (by omega))) (Lib.hid (IntWalk.i64_in _ (by omega))) (by omega) (fun _ _ _ _ _ h => h) ?_
              intro s106 s107 s108 s109 s110 s111 s112 s113 s114 s115 s116 s117 s118 s119 s120 s10 ta tc w7 hs10 q5 q6 q7
              subst hs10
              have Q := Lib.hid (And.intro q5 (And.intro q6 q7))
              have hwk : IntKind.i64.wrap ((k3 : Int) + 1) = (k3 : Int) + 1 := IntWalk.i64_in _ (by omega)
              have hwu : IntKind.u64.wrap ((k : Int) + 1) = ((k + 1 : Nat) : Int) := by rw [← Int.natCast_one, ← Int.natCast_add]; exact Go.wraps_u64 _ (by omega) (by omega)
              have hmm : ((k : Int) + 1) % 18446744073709551616 = ((k + 1 : Nat) : Int) := by omega
              clear q5 q6 q7 hcell hpg
              go_wp2_with fail
              go_roundw
              case rel =>
                have hnw : Nw w w7 := ((HS.out.2.1.trans N6.out)).trans' Q.out.2.1 (fun g hg hc => by have h1 := HS.out.2.2 g hc; have h2 := N3.out.size; omega)
                have hnw3 : Nw w3 w7 := ((HW3.out.trans N6.out)).trans' Q.out.2.1 (fun g hg hc => by have h1 := HS.out.2.2 g hc; omega)
                refine ⟨k + 1, cnt + 1, (k3 : Int) + 1, acc ++ [_], by first | rfl | (simp; done) | go_num, by omega, by first | rfl | (simp; done) | go_num, by omega, by omega, by rw [HM.out]; exact HSO2.out, ?_, by rw [List.length_append, HC.out]; rfl, by omega, ?_, hnw, hnw3, fun g hg => ?_⟩
                · rw [List.flatMap_append, List.flatMap_singleton]
                  exact Q.out.1
                · intro q hq
                  rcases List.mem_append.1 hq with hq | hq
                  · exact HOK.out q hq
                  · rw [List.mem_singleton] at hq; subst hq; exact HPK.out
                · rcases Q.out.2.2 with h | h
                  · exact HS.out.2.2 g (h ▸ hg)
                  · have h1 := h g hg
                    have h2 := (HW3.out.trans N6.out).size
                    exact Nat.le_trans h2 h1
              case measure => simp only [intOf]; omega
        · obtain rfl : k = n0 := by omega
          have rr := HE1.out
          rw [Nat.sub_self] at rr
          unfold pcsFrom at rr
          have r2 := HR.out
          rw [← rr, HUL.out] at r2
          simp only at r2
          have h0 := N3.out.size
          have hown : OwnP w wr (.slice sa cnt sc) acc := ⟨by rw [HC.out]; exact HS.out.1, HOK.out, HS.out.2.1, fun g hg => by have := HS.out.2.2 g hg; omega⟩
          have HOWN := Lib.hid hown
          have HRT := Lib.hid (dRight_ok hown.pcs)
          have hno2 : decide ((k : Int) < (k : Int)) = false := by simp
          clear rr hown h0
          by_cases hlt : at_ < (ul : Int)
          · have q6 : decide (at_ < (ul : Int)) = true := by simpa using hlt
            rw [if_pos hlt] at r2
            obtain ⟨rfl, rfl⟩ : [] = r ∧ 10 = e := by simpa using r2
            clear r2
            go_wp2_with fail
            refine bodyPost_ret (v := .tuple #[.slice none 0 0, .int .i64 10]) (by simp [results, Tryz.results13, go_sem]) rfl ⟨_, rfl, OwnP.nil HS.out.2.1⟩
          have q6 : decide (at_ < (ul : Int)) = false := by simpa using hlt
          rw [if_neg hlt] at r2
          cases hrt : rightL acc
          case false =>
            rw [hrt] at r2 HRT
            obtain ⟨rfl, rfl⟩ : [] = r ∧ 14 = e := by simpa using r2
            clear r2
            go_wp2_with fail
            refine HRT.out.mono ?_
            rintro z w4 ⟨rfl, n4⟩
            have N4 := Lib.hid (HS.out.2.1.trans n4)
            clear n4
            go_wp2_with fail
            refine bodyPost_ret (v := .tuple #[.slice none 0 0, .int .i64 14]) (by simp [results, Tryz.results13, go_sem]) rfl ⟨_, rfl, OwnP.nil N4.out⟩
          case true =>
            rw [hrt] at r2 HRT
            obtain ⟨rfl, rfl⟩ : acc = r ∧ 0 = e := by simpa using r2
            clear r2
            go_wp2_with fail
            refine HRT.out.mono ?_
            rintro z w4 ⟨rfl, n4⟩
            have O4 := Lib.hid (HOWN.out.nw n4)
            clear n4
            go_wp2_with fail
            refine bodyPost_ret (v := .tuple #[.slice sa cnt sc, .int .i64 0]) (by simp [results, Tryz.results13, go_sem]) rfl ⟨_, rfl, O4.out⟩
end Go.Proofs.YtkhcdbafcigeoaaGreatDoor

/-
  The statements' comparisons of lists that are the same: SamePieces, SameEvents.
-/
namespace Go.Proofs.YtkhcdbafcigeoaaGreatDoor
open Go Go.RowKit Go.Sort
set_option maxRecDepth 100000
set_option maxHeartbeats 1600000

theorem neq_pc (q : Pc) (w : World) : (binOp .neq 39 (.agg #[.string ⟨q.name.toArray⟩, .int .i64 q.first, .int .i64 q.count, .bool q.dense]) (.agg #[.string ⟨q.name.toArray⟩, .int .i64 q.first, .int .i64 q.count, .bool q.dense])).run Tryz.prog w = .ok (.bool false) w := by
  have hS : Tryz.prog.underlying 39 = some (.struct (Tryz.prog.fieldsOf 39)) := by kernel_rfl
  have hp : Tryz.prog.stoodInHeld 39 = false := by kernel_rfl
  have u1 := Tryz.underlying9
  have u2 := Tryz.underlying3
  have u3 := Tryz.underlying4
  rw [run_neq_struct, show (10000 : Nat) = 9999 + 1 from rfl, run_equalIn_agg w 9999 39 _ _ hS hp]
  simp only [Program.fieldsOf, Tryz.underlying39]
  go_simp
theorem SamePieces_ok {w : World} {v u : Value} {l : List Pc} (h : Pcs w v l) (h' : Pcs w u l) :
    Calls Tryz.prog 14 #[v, u] w fun e w' => e = .returned (.bool true) ∧ Nw w w' := by
  obtain ⟨la, lc, rfl, hl1, hl2, hle⟩ := h.elem
  obtain ⟨ka, kc, rfl, -, -, hke⟩ := h'.elem
  have HL := Lib.hid hle
  have HK := Lib.hid hke
  obtain ⟨n, hn⟩ : ∃ n, l.length = n := ⟨_, rfl⟩
  have HN := Lib.hid hn
  have hn63 : n ≤ 9223372036854775807 := by unfold maxLen at hl2; omega
  rw [hn]
  have hgd : Tryz.prog.eqGuardType Tryz.prog.depth 39 = false := by kernel_rfl
  clear h h' hle hke hl1 hl2 hn
  go_enter Tryz.func14, Tryz.ntmps14
  go_wp2
  go_loopw [5] (fun i wr => ∃ k : Nat, k ≤ n ∧ i = .int .i64 k ∧ Nw w wr) (fun i _ => n - (intOf i).toNat)
  case atStart => exact ⟨0, Nat.zero_le _, rfl, Nw.refl _⟩
  case round =>
    obtain ⟨k, hk, rfl, hwr⟩ := hrel
    have HW := Lib.hid hwr
    clear hwr
    by_cases hlt : k < n
    · have hkl : k < l.length := by rw [HN.out]; exact hlt
      obtain ⟨g, o, rfl, hg, c0, c1, c2, c3⟩ := HL.out k hkl
      obtain ⟨g2, o2, rfl, hg2, d0, d1, d2, d3⟩ := HK.out k hkl
      generalize l[k] = q at c0 c1 c2 c3 d0 d1 d2 d3
      have heq := neq_pc q
      have c0 := HW.out.cell c0
      have c1 := HW.out.cell c1
      have c2 := HW.out.cell c2
      have c3 := HW.out.cell c3
      have d0 := HW.out.cell d0
      have d1 := HW.out.cell d1
      have d2 := HW.out.cell d2
      have d3 := HW.out.cell d3
      have hg := Nat.lt_of_lt_of_le hg HW.out.size
      have hg2 := Nat.lt_of_lt_of_le hg2 HW.out.size
      clear hkl
      go_upto_region 6 with fail
      have c0 := cellG c0
      have c1 := cellG c1
      have c2 := cellG c2
      have c3 := cellG c3
      have d0 := cellG d0
      have d1 := cellG d1
      have d2 := cellG d2
      have d3 := cellG d3
      refine wp_region_quiet_below (by kernel_rfl) (by kernel_rfl) ?_
      repeat (first | go_big_quiet_step (fail) | quiet_step (fail))
      refine wpQuiet_nil ?_
      intro w2 hw2
      have hw2 := Lib.hid (Nw.of_regrown hw2)
      clear c0 c1 c2 c3 d0 d1 d2 d3 heq
      go_wp2
      go_roundw
      case rel => exact ⟨k + 1, by omega, by go_num, HW.out.trans hw2.out⟩
      case measure => simp [intOf]; omega
    · go_wp2
      go_ret
      exact ⟨rfl, HW.out⟩
end Go.Proofs.YtkhcdbafcigeoaaGreatDoor

/-
  The statements' choices and copies, walked: Pick, CopyBytes.
-/
namespace Go.Proofs.YtkhcdbafcigeoaaGreatDoor
open Go Go.RowKit Go.Sort
set_option maxRecDepth 100000
set_option maxHeartbeats 1600000

theorem CopyBytes_ok {w : World} {v : Value} {l : List UInt8} (h : Bs w v l) (hl : l.length ≤ 9223372036854775807) :
    Calls Tryz.prog 9 #[v] w fun e w' => ∃ v', e = .returned v' ∧ Vec 1 w' v' l.length (l.map u8) ∧ Nw w w' ∧ ∀ g, v'.ownBlock = some g → w.heap.size ≤ g := by
  have c1 := conv_str h
  have hV := Vec.of_conv w 5 l (by unfold maxLen; omega)
  have c2 : (convert 9 23 (.string ⟨l.toArray⟩)).run Tryz.prog w = .ok (.slice (some ⟨w.heap.size, 0, none⟩) l.length (grownCap w l.length 0 5)) (Lib.bytesWorld w 5 ⟨l.toArray⟩) :=
    Lib.run_convert_string_bytes (P := Tryz.prog) w 9 23 5 ⟨l.toArray⟩ Tryz.underlying9 Tryz.underlying23 Tryz.underlying5
  generalize Lib.bytesWorld w 5 ⟨l.toArray⟩ = w1 at c2 hV
  have HV := Lib.hid hV
  clear hV
  clear h
  go_enter Tryz.func9, Tryz.ntmps9
  go_wp2
  go_ret
  exact ⟨.slice (some ⟨w.heap.size, 0, none⟩) l.length (grownCap w l.length 0 5), rfl, HV.out.1, HV.out.2, fun g hg => by cases hg; exact Nat.le_refl _⟩
end Go.Proofs.YtkhcdbafcigeoaaGreatDoor
