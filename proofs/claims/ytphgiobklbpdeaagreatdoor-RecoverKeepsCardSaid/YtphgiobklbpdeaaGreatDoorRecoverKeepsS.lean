/-
  Texts merged by a program of this claim's: RecoverKeeps.
-/
import Derived.Test.YtphgiobklbpdeaaGreatDoorM44
import Derived.Test.YtphgiobklbpdeaaGreatDoorM38
import Derived.Test.YtphgiobklbpdeaaGreatDoorM39
/-
  amanuensislaw06.RecoverKeeps: behind any crash the events are a beginning of what was appended, with all that was acknowledged, life by life.
-/
namespace Go.Proofs.YtphgiobklbpdeaaGreatDoor.RecoverKeeps
open Go Go.RowKit Go.Sort
set_option maxRecDepth 100000
set_option maxHeartbeats 1600000

theorem life_at {w : World} {ls : List LifeA} {a : Option Addr} {n cap : Nat} (h : RdK 6 (isLife w) w (.slice a n cap) ls) (hn : ls.length = n) {k : Nat} (hk : k < n) :
    ∃ g o v0 v1 v3 v5, a = some ⟨g, o, none⟩ ∧ g < w.heap.size ∧ w.cell? ⟨g, o + k * 6, none⟩ = some v0 ∧ w.cell? ⟨g, o + k * 6 + 1, none⟩ = some v1 ∧ w.cell? ⟨g, o + k * 6 + 2, none⟩ = some (.int .i64 (ls[k]'(by omega)).arm) ∧
      w.cell? ⟨g, o + k * 6 + 3, none⟩ = some v3 ∧ w.cell? ⟨g, o + k * 6 + 4, none⟩ = some (.int .i64 (ls[k]'(by omega)).again) ∧ w.cell? ⟨g, o + k * 6 + 5, none⟩ = some v5 ∧
      RdK 1 (isEvs w) w v0 (ls[k]'(by omega)).frames ∧ Rd i64v w v1 (ls[k]'(by omega)).acts ∧ Rd i64v w v3 (ls[k]'(by omega)).keeps ∧ Rd i64v w v5 (ls[k]'(by omega)).left := by
  obtain ⟨a', cap', hv, -, -, hel⟩ := h.len
  injection hv with e1 e2 e3
  subst e1
  obtain ⟨g, o, rfl, hg, cs, hl, hc, v0, v1, v3, v5, rfl, r0, r1, -, -, r3, -, r5⟩ := hel k (by omega)
  refine ⟨g, o, v0, v1, v3, v5, rfl, hg, ?_, ?_, ?_, ?_, ?_, ?_, r0, r1, r3, r5⟩
  · exact hc 0 (by simp)
  · exact hc 1 (by simp)
  · exact hc 2 (by simp)
  · exact hc 3 (by simp)
  · exact hc 4 (by simp)
  · exact hc 5 (by simp)

theorem opened_any {X : Nat → Prop} {w0 w w' : World} {b : Nat} {R : OpenR} {z : Ending} (h : Opened X w0 w b R z w') : (∃ v, z = .returned v) ∧ HasX X w0 w' b R.d ∧ Kept X w w' := by
  obtain ⟨hk, ⟨-, p, v, rfl, hl, -⟩ | ⟨-, rfl, hd⟩⟩ := h
  · exact ⟨⟨_, rfl⟩, hl.has.weak fun k h => .inl h, hk⟩
  · exact ⟨⟨_, rfl⟩, hd, hk⟩
theorem armed_down (d : Dsk) (n : Int) : (d.armed n).down = d.down := by
  unfold Dsk.armed
  split <;> rfl
theorem armed_most (d : Dsk) (n : Int) : (d.armed n).most = d.most := by
  unfold Dsk.armed
  split <;> rfl

theorem walk (w : World) (ht : Tab w) (v0 : Value) (ls : List LifeA) (size : Int) (h0 : RdK 6 (isLife w) w v0 ls) (_hs : -9223372036854775808 ≤ size ∧ size ≤ 9223372036854775807) :
    Calls Tryz.prog 12 #[v0, .int .i64 size] w fun e w' => e = .returned (.bool true) ∧ Nw w w' := by
  have HT := Lib.hid ht
  have HL0 := Lib.hid h0
  obtain ⟨a0, c0, rfl, -⟩ := h0.len
  clear ht h0 _hs
  obtain ⟨nl, hnl⟩ : ∃ n, ls.length = n := ⟨_, rfl⟩
  rw [hnl] at HL0 ⊢
  have HNL := Lib.hid hnl
  clear hnl
  have hp0 := Int.emod_nonneg size (by omega : (300 : Int) ≠ 0)
  have hp1 := Int.emod_lt_of_pos size (by omega : (0 : Int) < 300)
  have PS := Lib.hid (fun W => Pick_ok size 300 W (by omega) (by omega))
  obtain ⟨sz, hsz⟩ : ∃ x, size % 300 = x := ⟨_, rfl⟩
  rw [hsz] at hp0 hp1 PS
  have HZ : Hid (64 ≤ 64 + sz ∧ 64 + sz ≤ 16777216 ∧ in64 (64 + sz)) := Lib.hid ⟨by omega, by omega, by omega, by omega⟩
  have hws : IntKind.i64.wrap (64 + sz) = 64 + sz := IntWalk.i64_in _ (by omega)
  clear hsz
  go_enter Tryz.func12, Tryz.ntmps12
  go_wp2_with fail
  refine (HasX.new 1048576 w (by omega) (by omega)).mono ?_
  rintro e w1 ⟨b, rfl, H1⟩
  have H1 := Lib.hid H1
  go_wp2_with fail
  refine (PS.out w1).mono ?_
  rintro e w2 ⟨rfl, rfl⟩
  have RT1 : Hid (Rt (WholeU U0) (newDsk 1048576).files [] 0) := Lib.hid (rt_new _)
  have CA1 : Hid (Calm (newDsk 1048576)) := Lib.hid ⟨rfl, rfl, by simp [newDsk, namesF]⟩
  have H1 : Hid (HasX (fun j => (Value.slice none 0 0).ownBlock = some j) w w1 b (newDsk 1048576)) := Lib.hid (H1.out.weak fun k hk => by cases hk)
  clear PS hp0 hp1
  go_wp2
  go_loopw [7, 8, 9] (fun s u i wr => ∃ (k q su : Nat) (d : Dsk) (all told : List Ev) (m : Nat), k ≤ 6 ∧ i = .int .i64 k ∧ u = .int .i64 q ∧ HasX (fun j => s.ownBlock = some j) w wr b d ∧ Calm d ∧ d.most = 1048576 ∧ Rt (WholeU U0) d.files told su ∧ q ≤ su ∧ told <+: all ∧ Vec 5 wr s m (all.flatMap evV) ∧ all.length = m ∧ m ≤ 600 * k ∧ (∀ e ∈ all, e.Ok) ∧ ∀ g, s.ownBlock = some g → w.heap.size ≤ g) (fun _ _ i _ => 6 - (intOf i).toNat)
  case atStart => exact ⟨0, 0, 0, _, [], [], 0, by omega, rfl, rfl, H1.out, CA1.out, rfl, RT1.out, by omega, List.prefix_refl _, Vec.nil, rfl, by omega, (fun e he => by cases he), fun g hg => by cases hg⟩
  case round =>
    obtain ⟨k, q, su, d, all, told, m, hk, rfl, rfl, hD, hca, hmo, hrt, hq, hpf, hs, hm, hmk, hok, hfr⟩ := hrel
    have HD := Lib.hid hD
    have CA := Lib.hid hca
    have MO := Lib.hid hmo
    have RT := Lib.hid hrt
    have PF := Lib.hid hpf
    have HS := Lib.hid hs
    have HM := Lib.hid hm
    have HOK := Lib.hid hok
    have HFR := Lib.hid hfr
    obtain ⟨sa, sc, rfl, -⟩ := hs.len
    clear hD hca hmo hrt hpf hs hm hok hfr H1 RT1 CA1
    have hsu := RT.out.le
    have htl : told.length ≤ m := by rw [← HM.out]; exact PF.out.length_le
    by_cases hgo : k < nl ∧ k < 6
    case neg =>
      have hfin : (nl ≤ k) ∨ (k < nl ∧ 6 ≤ k) := by omega
      rcases hfin with h | ⟨hk1, h⟩
      case inl =>
        have hk1 : ¬ k < nl := by omega
        clear h hgo
        obtain ⟨ps1, g1, sc1⟩ := RT.out.scanned CA.out.up
        obtain ⟨d2, ps2, me1, hc2, -, hrt2, me2⟩ := RT.out.mended CA.out
        have DN1 := Lib.hid (RT.out.den0 CA.out.up)
        have DN2 := Lib.hid (hrt2.den0 hc2.up)
        have SC1 := Lib.hid sc1
        have ME1 := Lib.hid me1
        have ME2 := Lib.hid me2
        have OKT : Hid (∀ e ∈ told, e.Ok) := Lib.hid (fun e he => HOK.out e (PF.out.subset he))
        have AE : Hid (Evs wr (.slice sa m sc) all) := Lib.hid ⟨by rw [HM.out]; exact HS.out.src, HOK.out⟩
        clear sc1 me1 me2 hrt2 hc2
        go_wp2_with fail
        refine (Scan_ok HD.out DN1.out SC1.out).mono ?_
        rintro e w7 ⟨v7, p7, rfl, o1, o2⟩
        obtain ⟨xa2, xc2, rfl, -⟩ := o1.1.len
        obtain ⟨ya2, yc2, rfl, -⟩ := o2.1.len
        have U7 : Hid (Evs w7 (.slice xa2 told.length xc2) told) := Lib.hid ⟨o1.1.src, OKT.out⟩
        obtain ⟨Y, hY⟩ : ∃ Y : Nat → Prop, Y = fun j => (Value.slice sa m sc).ownBlock = some j ∨ wr.heap.size ≤ j ∧ j < w7.heap.size := ⟨_, rfl⟩
        have H7 : Hid (HasX Y w w7 b d) := Lib.hid (HD.out.nwY o1.2.1 fun k hk => by rw [hY] at hk; exact hk)
        have HY : Hid ((∀ g, (Value.slice sa m sc).ownBlock = some g → Y g) ∧ (∀ g, (Value.slice xa2 told.length xc2).ownBlock = some g → Y g)) := Lib.hid (by
          rw [hY]
          exact ⟨fun g hg => .inl hg, fun g hg => .inr ⟨o1.2.2 g hg, o1.1.lt g hg⟩⟩)
        have A7 := Lib.hid (AE.out.nw o1.2.1)
        clear o1 o2 hY
        go_wp2_with fail
        refine (Mend_ok H7.out DN1.out ME1.out).mono ?_
        rintro e w8 ⟨v8, p8, rfl, t8⟩
        obtain ⟨ma, mc, rfl, -⟩ := t8.evs.len
        obtain ⟨na, nc, rfl, -⟩ := t8.pcs.len
        obtain ⟨Y2, hY2⟩ : ∃ Y2 : Nat → Prop, Y2 = fun k => Y k ∨ (Value.slice ma told.length mc).ownBlock = some k ∨ (Value.slice na ps2.length nc).ownBlock = some k := ⟨_, rfl⟩
        have H8 : Hid (HasX Y2 w w8 b d2) := Lib.hid (by rw [hY2]; exact t8.disk)
        have HY2 : Hid ((∀ k, Y k → Y2 k) ∧ (∀ g, (Value.slice ma told.length mc).ownBlock = some g → Y2 g) ∧ (∀ g, (Value.slice na ps2.length nc).ownBlock = some g → Y2 g)) := Lib.hid (by rw [hY2]; exact ⟨fun k h => .inl h, fun g hg => .inr (.inl hg), fun g hg => .inr (.inr hg)⟩)
        have A8 := Lib.hid (A7.out.kept t8.kept HY.out.1)
        have U8 := Lib.hid (U7.out.kept t8.kept HY.out.2)
        have M8 : Hid (Evs w8 (.slice ma told.length mc) told) := Lib.hid ⟨t8.evs.src, OKT.out⟩
        have P8 : Hid (Pcs w8 (.slice na ps2.length nc) ps2) := Lib.hid ⟨t8.pcs.src, t8.ok⟩
        clear t8 H7 A7 U7 hY2
        go_wp2_with fail
        refine (Mend_ok H8.out DN2.out ME2.out).mono ?_
        rintro e w9 ⟨v9, p9, rfl, t9⟩
        obtain ⟨ma2, mc2, rfl, -⟩ := t9.evs.len
        obtain ⟨na2, nc2, rfl, -⟩ := t9.pcs.len
        have A9 := Lib.hid (A8.out.kept t9.kept fun g hg => HY2.out.1 g (HY.out.1 g hg))
        have U9 := Lib.hid (U8.out.kept t9.kept fun g hg => HY2.out.1 g (HY.out.2 g hg))
        have M9 := Lib.hid (M8.out.kept t9.kept HY2.out.2.1)
        have P9 := Lib.hid (P8.out.kept t9.kept HY2.out.2.2)
        have N9 : Hid (Evs w9 (.slice ma2 told.length mc2) told) := Lib.hid ⟨t9.evs.src, OKT.out⟩
        have Q9 : Hid (Pcs w9 (.slice na2 ps2.length nc2) ps2) := Lib.hid ⟨t9.pcs.src, t9.ok⟩
        have B9 := Lib.hid t9.disk.base
        clear t9 H8 A8 U8 M8 P8
        have q5 : decide ((q : Int) ≤ (told.length : Int)) = true := by simp; omega
        go_wp2_with fail
        refine (SameEvents_ok U9.out M9.out).mono ?_
        rintro e w10 ⟨rfl, n10⟩
        have N10 := Lib.hid n10
        go_wp2_with fail
        refine (SameEvents_ok (M9.out.nw N10.out) (N9.out.nw N10.out)).mono ?_
        rintro e w11 ⟨rfl, n11⟩
        have N11 := Lib.hid (N10.out.trans n11)
        go_wp2_with fail
        refine (SamePieces_ok (P9.out.nw N11.out) (Q9.out.nw N11.out)).mono ?_
        rintro e w12 ⟨rfl, n12⟩
        have N12 := Lib.hid (N11.out.trans n12)
        go_wp2_with fail
        refine (begins_ok (U9.out.nw N12.out) (A9.out.nw N12.out) PF.out).mono ?_
        rintro e w13 ⟨rfl, n13⟩
        have N13 := Lib.hid (B9.out.trans (N12.out.trans n13))
        clear n10 n11 n12 n13 N10 N11 N12 A9 U9 M9 N9 P9 Q9
        go_wp2_with fail
        refine (awake6_ok w13 (HT.out.nw N13.out)).mono ?_
        rintro e w14 ⟨rfl, n14⟩
        have N14 := Lib.hid (N13.out.trans n14)
        clear n14
        go_wp2
        go_ret
        exact ⟨rfl, N14.out⟩
      case inr =>
        have hk2 : ¬ k < 6 := by omega
        clear h hgo
        obtain ⟨ps1, g1, sc1⟩ := RT.out.scanned CA.out.up
        obtain ⟨d2, ps2, me1, hc2, -, hrt2, me2⟩ := RT.out.mended CA.out
        have DN1 := Lib.hid (RT.out.den0 CA.out.up)
        have DN2 := Lib.hid (hrt2.den0 hc2.up)
        have SC1 := Lib.hid sc1
        have ME1 := Lib.hid me1
        have ME2 := Lib.hid me2
        have OKT : Hid (∀ e ∈ told, e.Ok) := Lib.hid (fun e he => HOK.out e (PF.out.subset he))
        have AE : Hid (Evs wr (.slice sa m sc) all) := Lib.hid ⟨by rw [HM.out]; exact HS.out.src, HOK.out⟩
        clear sc1 me1 me2 hrt2 hc2
        go_wp2_with fail
        refine (Scan_ok HD.out DN1.out SC1.out).mono ?_
        rintro e w7 ⟨v7, p7, rfl, o1, o2⟩
        obtain ⟨xa2, xc2, rfl, -⟩ := o1.1.len
        obtain ⟨ya2, yc2, rfl, -⟩ := o2.1.len
        have U7 : Hid (Evs w7 (.slice xa2 told.length xc2) told) := Lib.hid ⟨o1.1.src, OKT.out⟩
        obtain ⟨Y, hY⟩ : ∃ Y : Nat → Prop, Y = fun j => (Value.slice sa m sc).ownBlock = some j ∨ wr.heap.size ≤ j ∧ j < w7.heap.size := ⟨_, rfl⟩
        have H7 : Hid (HasX Y w w7 b d) := Lib.hid (HD.out.nwY o1.2.1 fun k hk => by rw [hY] at hk; exact hk)
        have HY : Hid ((∀ g, (Value.slice sa m sc).ownBlock = some g → Y g) ∧ (∀ g, (Value.slice xa2 told.length xc2).ownBlock = some g → Y g)) := Lib.hid (by
          rw [hY]
          exact ⟨fun g hg => .inl hg, fun g hg => .inr ⟨o1.2.2 g hg, o1.1.lt g hg⟩⟩)
        have A7 := Lib.hid (AE.out.nw o1.2.1)
        clear o1 o2 hY
        go_wp2_with fail
        refine (Mend_ok H7.out DN1.out ME1.out).mono ?_
        rintro e w8 ⟨v8, p8, rfl, t8⟩
        obtain ⟨ma, mc, rfl, -⟩ := t8.evs.len
        obtain ⟨na, nc, rfl, -⟩ := t8.pcs.len
        obtain ⟨Y2, hY2⟩ : ∃ Y2 : Nat → Prop, Y2 = fun k => Y k ∨ (Value.slice ma told.length mc).ownBlock = some k ∨ (Value.slice na ps2.length nc).ownBlock = some k := ⟨_, rfl⟩
        have H8 : Hid (HasX Y2 w w8 b d2) := Lib.hid (by rw [hY2]; exact t8.disk)
        have HY2 : Hid ((∀ k, Y k → Y2 k) ∧ (∀ g, (Value.slice ma told.length mc).ownBlock = some g → Y2 g) ∧ (∀ g, (Value.slice na ps2.length nc).ownBlock = some g → Y2 g)) := Lib.hid (by rw [hY2]; exact ⟨fun k h => .inl h, fun g hg => .inr (.inl hg), fun g hg => .inr (.inr hg)⟩)
        have A8 := Lib.hid (A7.out.kept t8.kept HY.out.1)
        have U8 := Lib.hid (U7.out.kept t8.kept HY.out.2)
        have M8 : Hid (Evs w8 (.slice ma told.length mc) told) := Lib.hid ⟨t8.evs.src, OKT.out⟩
        have P8 : Hid (Pcs w8 (.slice na ps2.length nc) ps2) := Lib.hid ⟨t8.pcs.src, t8.ok⟩
        clear t8 H7 A7 U7 hY2
        go_wp2_with fail
        refine (Mend_ok H8.out DN2.out ME2.out).mono ?_
        rintro e w9 ⟨v9, p9, rfl, t9⟩
        obtain ⟨ma2, mc2, rfl, -⟩ := t9.evs.len
        obtain ⟨na2, nc2, rfl, -⟩ := t9.pcs.len
        have A9 := Lib.hid (A8.out.kept t9.kept fun g hg => HY2.out.1 g (HY.out.1 g hg))
        have U9 := Lib.hid (U8.out.kept t9.kept fun g hg => HY2.out.1 g (HY.out.2 g hg))
        have M9 := Lib.hid (M8.out.kept t9.kept HY2.out.2.1)
        have P9 := Lib.hid (P8.out.kept t9.kept HY2.out.2.2)
        have N9 : Hid (Evs w9 (.slice ma2 told.length mc2) told) := Lib.hid ⟨t9.evs.src, OKT.out⟩
        have Q9 : Hid (Pcs w9 (.slice na2 ps2.length nc2) ps2) := Lib.hid ⟨t9.pcs.src, t9.ok⟩
        have B9 := Lib.hid t9.disk.base
        clear t9 H8 A8 U8 M8 P8
        have q5 : decide ((q : Int) ≤ (told.length : Int)) = true := by simp; omega
        go_wp2_with fail
        refine (SameEvents_ok U9.out M9.out).mono ?_
        rintro e w10 ⟨rfl, n10⟩
        have N10 := Lib.hid n10
        go_wp2_with fail
        refine (SameEvents_ok (M9.out.nw N10.out) (N9.out.nw N10.out)).mono ?_
        rintro e w11 ⟨rfl, n11⟩
        have N11 := Lib.hid (N10.out.trans n11)
        go_wp2_with fail
        refine (SamePieces_ok (P9.out.nw N11.out) (Q9.out.nw N11.out)).mono ?_
        rintro e w12 ⟨rfl, n12⟩
        have N12 := Lib.hid (N11.out.trans n12)
        go_wp2_with fail
        refine (begins_ok (U9.out.nw N12.out) (A9.out.nw N12.out) PF.out).mono ?_
        rintro e w13 ⟨rfl, n13⟩
        have N13 := Lib.hid (B9.out.trans (N12.out.trans n13))
        clear n10 n11 n12 n13 N10 N11 N12 A9 U9 M9 N9 P9 Q9
        go_wp2_with fail
        refine (awake6_ok w13 (HT.out.nw N13.out)).mono ?_
        rintro e w14 ⟨rfl, n14⟩
        have N14 := Lib.hid (N13.out.trans n14)
        clear n14
        go_wp2
        go_ret
        exact ⟨rfl, N14.out⟩
    have hk1 : k < nl := hgo.1
    have hk2 : k < 6 := hgo.2
    clear hgo
    obtain ⟨g, o, v0, v1, v3, v5, rfl, hg, x0, x1, x2, x3, x4, x5, r0, r1, r3, r5⟩ := life_at HL0.out HNL.out hk1
    generalize ls[k]'_ = x at x2 x4 r0 r1 r3 r5
    obtain ⟨fa, fc, rfl, -⟩ := r0.len
    obtain ⟨ca, cc, rfl, hcl⟩ := r1.len
    obtain ⟨ka, kc, rfl, -⟩ := r3.len
    obtain ⟨la, lc, rfl, -⟩ := r5.len
    obtain ⟨fs, acs, arm, ks, ag, lf⟩ := x
    simp only at x0 x1 x2 x3 x4 x5 r0 r1 r3 r5 hcl
    obtain ⟨nf, hnf⟩ : ∃ n, fs.length = n := ⟨_, rfl⟩
    obtain ⟨na', hna⟩ : ∃ n, acs.length = n := ⟨_, rfl⟩
    obtain ⟨nk, hnk⟩ : ∃ n, ks.length = n := ⟨_, rfl⟩
    obtain ⟨nlf, hnlf⟩ : ∃ n, lf.length = n := ⟨_, rfl⟩
    rw [hnf] at x0 r0
    rw [hna] at x1 r1 hcl
    rw [hnk] at x3 r3
    rw [hnlf] at x5 r5
    have hna63 : na' ≤ 9223372036854775807 := by unfold maxLen at hcl; omega
    have R0 := Lib.hid r0
    have R1 := Lib.hid r1
    have R3 := Lib.hid r3
    have R5 := Lib.hid r5
    have HNF := Lib.hid hnf
    have HNA := Lib.hid hna
    have x0 := HD.out.base.cell x0
    have x1 := HD.out.base.cell x1
    have x2 := HD.out.base.cell x2
    have x3 := HD.out.base.cell x3
    have x4 := HD.out.base.cell x4
    have x5 := HD.out.base.cell x5
    have hg := Nat.lt_of_lt_of_le hg HD.out.base.size
    clear r0 r1 r3 r5 hnf hna hnk hnlf hcl
    obtain ⟨bx, hbx⟩ : ∃ x : Obj, Obj.cells #[.slice fa nf fc, .slice ca na' cc, .int .i64 arm, .slice ka nk kc, .int .i64 ag, .slice la nlf lc] 86 = x := ⟨_, rfl⟩
    have na := (Nw.refl wr).alloc bx
    have hB := heap_alloc_new wr bx
    obtain ⟨X, hX⟩ : ∃ X : Nat → Prop, X = fun j => (Value.slice sa m sc).ownBlock = some j ∨ j = wr.heap.size := ⟨_, rfl⟩
    have H3 : Hid (HasX X w (wr.alloc bx) b d) := Lib.hid (by rw [hX]; exact HD.out.alloc bx)
    have C := Open_ok H3.out HT.out (RT.out.den0 CA.out.up) (64 + sz)
    have C := Lib.hid C
    have HX : Hid ((∀ g, (Value.slice sa m sc).ownBlock = some g → X g) ∧ X wr.heap.size) := Lib.hid (by rw [hX]; exact ⟨fun g h => .inl h, .inr rfl⟩)
    have HB : Hid ((wr.alloc bx).heap[wr.heap.size]? = some (.cells #[.slice fa nf fc, .slice ca na' cc, .int .i64 arm, .slice ka nk kc, .int .i64 ag, .slice la nlf lc] 86 (0, 0))) := Lib.hid (by rw [hB, ← hbx])
    have NA := Lib.hid na
    obtain ⟨e0, -, -⟩ := RT.out.openCalm CA.out (by rw [MO.out]; omega) HZ.out.1 HZ.out.2.1 (by omega)
    have E0 := Lib.hid e0
    have A3 : Hid (Evs (wr.alloc bx) (.slice sa m sc) all) := Lib.hid ⟨by rw [HM.out]; exact (HS.out.nw na).src, HOK.out⟩
    clear hX hB na e0
    go_wp2_with fail
    refine C.out.mono ?_
    rintro e w3 ⟨k3, ⟨-, p, v3, rfl, L3, V3, f3⟩ | ⟨hx, -, -⟩⟩
    case inr => exact absurd E0.out hx
    obtain ⟨-, o1, o2, o3, o4, o5, o6⟩ := RT.out.opened CA.out MO.out HZ.out.1 HZ.out.2.1 (by omega) L3.ok
    obtain ⟨R, hR⟩ : ∃ r, openD U0 d (64 + sz) = r := ⟨_, rfl⟩
    rw [hR] at L3 V3 o1 o2 o3 o4 o5 o6
    obtain ⟨d4, L4, es4, e4⟩ := R
    simp only at L3 V3 o1 o2 o3 o4 o5 o6
    subst o1
    obtain ⟨tl, htl2⟩ : ∃ n, es4.length = n := ⟨_, rfl⟩
    rw [htl2] at V3 o3 htl
    obtain ⟨ta, tc, rfl, -⟩ := V3.len
    obtain ⟨xb, hxb⟩ : ∃ x, wr.heap.size = x := ⟨_, rfl⟩
    rw [hxb] at HX HB ⊢
    have HTL := Lib.hid htl2
    have KI := Lib.hid o2
    have AK := Lib.hid o3
    have RK := Lib.hid o4
    have MO4 := Lib.hid o6
    have TOK : Hid (∀ e ∈ es4, e.Ok) := Lib.hid (fun e he => HOK.out e (PF.out.subset he))
    have HL3 : Hid (HasL (fun x => (Value.slice ta tl tc).ownBlock = some x ∨ x = xb) w w3 p b d4 L4) := Lib.hid (L3.less fun x hx => by
      rcases hx with hx | rfl
      · exact .inr hx
      · exact .inl HX.out.2)
    have HV3 := Lib.hid V3
    have HB3 := Lib.hid ((k3.2 _ HX.out.2 (lt_of_block HB.out)).trans HB.out)
    have A4 := Lib.hid (A3.out.kept k3 HX.out.1)
    have T4 : Hid (Evs w3 (.slice ta tl tc) es4) := Lib.hid ⟨by rw [HTL.out]; exact V3.src, TOK.out⟩
    have F3 : Hid (∀ g, (Value.slice ta tl tc).ownBlock = some g → w.heap.size ≤ g) := Lib.hid (fun g hg => by have h1 := f3 g hg; have h2 := (HD.out.base.trans NA.out).size; omega)
    have LN : Hid (L4.n = tl) := Lib.hid (by have := o2.facts.1; rw [this]; exact htl2)
    have q3 : decide ((tl : Int) < (q : Int)) = false := by simp; omega
    have hqt : q ≤ tl := by omega
    have hqt2 : ¬ tl < q := by omega
    have q4 : ((tl : Int) != (tl : Int)) = false := by simp
    clear o2 o3 o4 o5 o6 hR k3 f3 L3 V3 A3 HB NA C E0 hbx x0 x1 x2 x3 x4 x5 htl2 hxb H3 HX HS HD
    go_wp2_with fail
    refine (begins_ok T4.out A4.out PF.out).mono ?_
    rintro e w4 ⟨rfl, n4⟩
    have HL4 := Lib.hid (HL3.out.nw n4)
    have HV4 := Lib.hid (HV3.out.nw n4)
    have HB4 := Lib.hid (n4.at_ HB3.out)
    clear n4 HL3 HV3 HB3 T4 A4
    go_wp2_with fail
    refine (HL4.out.len LN.out).mono ?_
    rintro e w5 ⟨rfl, rfl⟩
    go_wp2_with fail
    refine (HL4.out.ack AK.out).mono ?_
    rintro e w5 ⟨rfl, rfl⟩
    have y2 := cell_of HB4.out (i := 2) rfl
    have hxl := lt_of_block HB4.out
    have hz0 := Int.emod_nonneg arm (by omega : (80 : Int) ≠ 0)
    have hz1 := Int.emod_lt_of_pos arm (by omega : (0 : Int) < 80)
    go_wp2_with fail
    refine (Pick_ok arm 80 w4 (by omega) (by omega)).mono ?_
    rintro e w5 ⟨rfl, rfl⟩
    go_wp2_with fail
    refine (HL4.out.armed (arm % 80) (by omega)).mono ?_
    rintro e w5 ⟨rfl, L5, k5⟩
    have HL5 := Lib.hid L5
    have HV5 := Lib.hid (HV4.out.kept k5 fun g hg => .inl hg)
    have HB5 := Lib.hid ((k5.2 _ (.inr rfl) (lt_of_block HB4.out)).trans HB4.out)
    have KI5 : Hid (KInv (WholeU U0) (d4.armed (arm % 80)).files L4 es4) := Lib.hid (by rw [armed_files]; exact KI.out)
    have MO5 : Hid ((d4.armed (arm % 80)).most = 1048576) := Lib.hid (by rw [armed_most]; exact MO4.out)
    generalize d4.armed (arm % 80) = d5 at HL5 KI5 MO5
    clear L5 k5 HL4 HV4 HB4 y2 hxl hz0 hz1 KI AK MO4 LN q3 q4
    go_wp2
    go_loopw [7, 14] (fun s i wq => ∃ (j c m2 : Nat) (d2 : Dsk) (L2 : Lg) (all2 : List Ev), j ≤ 20 ∧ c ≤ j ∧ i = .int .i64 j ∧ KInv (WholeU U0) d2.files L2 all2 ∧ d2.most = 1048576 ∧ Rk (64 + sz) c L2 ∧ HasL (fun x => s.ownBlock = some x ∨ x = xb) w wq p b d2 L2 ∧ Vec 5 wq s m2 (all2.flatMap evV) ∧ all2.length = m2 ∧ m2 ≤ tl + 30 * c ∧ (∀ e ∈ all2, e.Ok) ∧ (∀ g, s.ownBlock = some g → w.heap.size ≤ g) ∧
      wq.heap[xb]? = some (.cells #[.slice fa nf fc, .slice ca na' cc, .int .i64 arm, .slice ka nk kc, .int .i64 ag, .slice la nlf lc] 86 (0, 0))) (fun _ i _ => 20 - (intOf i).toNat)
    case atStart => exact ⟨0, 0, tl, d5, L4, es4, by omega, by omega, rfl, KI5.out, MO5.out, RK.out, HL5.out, HV5.out, HTL.out, by omega, TOK.out, F3.out, HB5.out⟩
    case round =>
      obtain ⟨j, c, m2, d2, L2, all2, hj, hc, rfl, ki2, mo2, rk2, hl2, hs2, hm2, hmc, hok2, hfr2, hb2⟩ := hrel
      have KI2 := Lib.hid ki2
      have MO2 := Lib.hid mo2
      have RK2 := Lib.hid rk2
      have HL2 := Lib.hid hl2
      have HS2 := Lib.hid hs2
      have HM2 := Lib.hid hm2
      have HOK2 := Lib.hid hok2
      have HFR2 := Lib.hid hfr2
      have HB2 := Lib.hid hb2
      obtain ⟨sa2, sc2, rfl, -⟩ := hs2.len
      have y0 := cell_of hb2 (i := 0) rfl
      have y1 := cell_of hb2 (i := 1) rfl
      have hxl := lt_of_block hb2
      clear ki2 mo2 rk2 hl2 hs2 hm2 hok2 hfr2 hb2 KI5 MO5 RK HL5 HV5 HB5 TOK F3
      by_cases h1 : j < nf
      case neg =>
        clear y1
        obtain ⟨ak, hak⟩ : ∃ n, L2.acked = n := ⟨_, rfl⟩
        have HAK := Lib.hid hak
        have hle := KI2.out.le
        rw [hak, HM2.out] at hle
        go_wp2_with fail
        refine (HL2.out.ack HAK.out).mono ?_
        rintro e w4 ⟨rfl, rfl⟩
        have y3 := cell_of HB2.out (i := 3) rfl
        have y4 := cell_of HB2.out (i := 4) rfl
        have y5 := cell_of HB2.out (i := 5) rfl
        have hxl := lt_of_block HB2.out
        obtain ⟨i1, i2, i3, hc1, hm1, hr1⟩ := Rt.crashed HL2.out.ok HL2.out.ok.names KI2.out.rt ks
        rw [hak] at i2
        rw [HM2.out] at i3
        clear hak
        go_wp2_with fail
        refine (HL2.out.has.crash (d' := d2.crash ks) _ ks (R3.out.nw HL2.out.base) (fun hne g hg => .inr (R3.out.lt hne g hg)) rfl).mono ?_
        rintro e w5 ⟨rfl, h5, k5⟩
        obtain ⟨d5, hd5⟩ : ∃ x, d2.crash ks = x := ⟨_, rfl⟩
        rw [hd5] at h5 hc1 hm1 hr1
        have H5 := Lib.hid h5
        have S5 := Lib.hid (HS2.out.kept k5 fun g hg => .inl hg)
        have B5 := Lib.hid ((k5.2 _ (.inr rfl) (lt_of_block HB2.out)).trans HB2.out)
        have R15 := Lib.hid hr1
        have C5 := Lib.hid hc1
        clear hd5 hc1 hr1 h5 k5 y3 y4 y5 hxl
        have y4 := cell_of B5.out (i := 4) rfl
        have hxl := lt_of_block B5.out
        have hz0 := Int.emod_nonneg ag (by omega : (9 : Int) ≠ 0)
        have hz1 := Int.emod_lt_of_pos ag (by omega : (0 : Int) < 9)
        go_wp2_with fail
        refine (Pick_ok ag 9 w5 (by omega) (by omega)).mono ?_
        rintro e w6 ⟨rfl, rfl⟩
        go_wp2_with fail
        refine (H5.out.arm (ag % 9) (by omega) rfl).mono ?_
        rintro e w6 ⟨rfl, h6, k6⟩
        have H6 := Lib.hid h6
        have S6 := Lib.hid (S5.out.kept k6 fun g hg => .inl hg)
        have B6 := Lib.hid ((k6.2 _ (.inr rfl) (lt_of_block B5.out)).trans B5.out)
        have R16 : Hid (Rt (WholeU U0) (d5.armed (ag % 9)).files (all2.take i1) i1) := Lib.hid (by rw [armed_files]; exact R15.out)
        have D6 : Hid ((d5.armed (ag % 9)).down = false) := Lib.hid (by rw [armed_down]; exact C5.out.up)
        have hm6 : (d5.armed (ag % 9)).most = d2.most := by rw [armed_most]; exact hm1
        generalize d5.armed (ag % 9) = d6 at H6 R16 D6 hm6
        clear h6 k6 y4 hxl H5 S5 B5 R15 C5 hm1
        have CO := Lib.hid (Open_ok H6.out HT.out (R16.out.den0 D6.out) (64 + sz))
        go_wp2_with fail
        refine CO.out.mono ?_
        rintro e w7 hop
        obtain ⟨⟨v7, rfl⟩, h7, k7⟩ := opened_any hop
        have hm7 : (openD U0 d6 (64 + sz)).d.most = d6.most := openD_most U0 d6 (64 + sz)
        have R17 := Lib.hid (R16.out.again (size := 64 + sz))
        have H7 := Lib.hid h7
        have S7 := Lib.hid (S6.out.kept k7 fun g hg => .inl hg)
        have B7 := Lib.hid ((k7.2 _ (.inr rfl) (lt_of_block B6.out)).trans B6.out)
        generalize (openD U0 d6 (64 + sz)).d = d7 at H7 R17 hm7
        clear hop h7 k7 H6 S6 B6 R16 D6 CO
        have y5 := cell_of B7.out (i := 5) rfl
        have hxl := lt_of_block B7.out
        obtain ⟨j1, j2, j3, hc8, hm8, hr8⟩ := Rt.crashed H7.out.ok H7.out.ok.names R17.out lf
        go_wp2_with fail
        refine (H7.out.crash (d' := d7.crash lf) _ lf (R5.out.nw H7.out.base) (fun hne g hg => .inr (R5.out.lt hne g hg)) rfl).mono ?_
        rintro e w8 ⟨rfl, h8, k8⟩
        obtain ⟨d8, hd8⟩ : ∃ x, d7.crash lf = x := ⟨_, rfl⟩
        rw [hd8] at h8 hc8 hm8 hr8
        have H8 := Lib.hid h8
        have S8 := Lib.hid (S7.out.kept k8 fun g hg => .inl hg)
        have R18 := Lib.hid hr8
        have C8 := Lib.hid hc8
        have M8 : Hid (d8.most = 1048576) := Lib.hid (by rw [hm8, hm7, hm6]; exact MO2.out)
        have PF8 : Hid ((all2.take i1).take j1 <+: all2) := Lib.hid (List.IsPrefix.trans (List.take_prefix _ _) (List.take_prefix _ _))
        have hle8 := hr8.le
        generalize (all2.take i1).take j1 = told8 at R18 PF8 hle8
        obtain ⟨ps8, g8, sc8⟩ := R18.out.scanned C8.out.up
        have SC8 := Lib.hid sc8
        have DN8 := Lib.hid (R18.out.den0 C8.out.up)
        clear hd8 hc8 hm8 hr8 h8 k8 H7 S7 B7 R17 y5 hxl sc8 hm6 hm7
        go_wp2_with fail
        refine (Scan_ok H8.out DN8.out SC8.out).mono ?_
        rintro e w9 ⟨v9, p9, rfl, o1, o2⟩
        obtain ⟨xa9, xc9, rfl, -⟩ := o1.1.len
        obtain ⟨ya9, yc9, rfl, -⟩ := o2.1.len
        have U9 : Hid (Evs w9 (.slice xa9 told8.length xc9) told8) := Lib.hid ⟨o1.1.src, fun e he => HOK2.out e (PF8.out.subset he)⟩
        have H9 := Lib.hid (H8.out.nw o1.2.1)
        have S9 := Lib.hid (S8.out.nw o1.2.1)
        have A9 : Hid (Evs w9 (.slice sa2 m2 sc2) all2) := Lib.hid ⟨by rw [HM2.out]; exact S9.out.src, HOK2.out⟩
        clear o1 o2 H8 S8
        go_wp2_with fail
        refine (begins_ok U9.out A9.out PF8.out).mono ?_
        rintro e w10 ⟨rfl, n10⟩
        have H10 := Lib.hid (H9.out.nw n10)
        have S10 := Lib.hid (S9.out.nw n10)
        clear n10 H9 S9 A9 U9
        have q9 : decide ((told8.length : Int) < (ak : Int)) = false := by simp; omega
        go_wp2_with fail
        go_roundw
        case rel => exact ⟨k + 1, ak, j1, d8, all2, told8, m2, by omega, by go_num, rfl, H10.out.weak (fun x hx => .inl hx), C8.out, M8.out, R18.out, by omega, PF8.out, S10.out, HM2.out, by omega, HOK2.out, HFR2.out⟩
        case measure => simp [intOf]; omega
      by_cases h2 : j < 20
      case neg =>
        clear y1
        obtain ⟨ak, hak⟩ : ∃ n, L2.acked = n := ⟨_, rfl⟩
        have HAK := Lib.hid hak
        have hle := KI2.out.le
        rw [hak, HM2.out] at hle
        go_wp2_with fail
        refine (HL2.out.ack HAK.out).mono ?_
        rintro e w4 ⟨rfl, rfl⟩
        have y3 := cell_of HB2.out (i := 3) rfl
        have y4 := cell_of HB2.out (i := 4) rfl
        have y5 := cell_of HB2.out (i := 5) rfl
        have hxl := lt_of_block HB2.out
        obtain ⟨i1, i2, i3, hc1, hm1, hr1⟩ := Rt.crashed HL2.out.ok HL2.out.ok.names KI2.out.rt ks
        rw [hak] at i2
        rw [HM2.out] at i3
        clear hak
        go_wp2_with fail
        refine (HL2.out.has.crash (d' := d2.crash ks) _ ks (R3.out.nw HL2.out.base) (fun hne g hg => .inr (R3.out.lt hne g hg)) rfl).mono ?_
        rintro e w5 ⟨rfl, h5, k5⟩
        obtain ⟨d5, hd5⟩ : ∃ x, d2.crash ks = x := ⟨_, rfl⟩
        rw [hd5] at h5 hc1 hm1 hr1
        have H5 := Lib.hid h5
        have S5 := Lib.hid (HS2.out.kept k5 fun g hg => .inl hg)
        have B5 := Lib.hid ((k5.2 _ (.inr rfl) (lt_of_block HB2.out)).trans HB2.out)
        have R15 := Lib.hid hr1
        have C5 := Lib.hid hc1
        clear hd5 hc1 hr1 h5 k5 y3 y4 y5 hxl
        have y4 := cell_of B5.out (i := 4) rfl
        have hxl := lt_of_block B5.out
        have hz0 := Int.emod_nonneg ag (by omega : (9 : Int) ≠ 0)
        have hz1 := Int.emod_lt_of_pos ag (by omega : (0 : Int) < 9)
        go_wp2_with fail
        refine (Pick_ok ag 9 w5 (by omega) (by omega)).mono ?_
        rintro e w6 ⟨rfl, rfl⟩
        go_wp2_with fail
        refine (H5.out.arm (ag % 9) (by omega) rfl).mono ?_
        rintro e w6 ⟨rfl, h6, k6⟩
        have H6 := Lib.hid h6
        have S6 := Lib.hid (S5.out.kept k6 fun g hg => .inl hg)
        have B6 := Lib.hid ((k6.2 _ (.inr rfl) (lt_of_block B5.out)).trans B5.out)
        have R16 : Hid (Rt (WholeU U0) (d5.armed (ag % 9)).files (all2.take i1) i1) := Lib.hid (by rw [armed_files]; exact R15.out)
        have D6 : Hid ((d5.armed (ag % 9)).down = false) := Lib.hid (by rw [armed_down]; exact C5.out.up)
        have hm6 : (d5.armed (ag % 9)).most = d2.most := by rw [armed_most]; exact hm1
        generalize d5.armed (ag % 9) = d6 at H6 R16 D6 hm6
        clear h6 k6 y4 hxl H5 S5 B5 R15 C5 hm1
        have CO := Lib.hid (Open_ok H6.out HT.out (R16.out.den0 D6.out) (64 + sz))
        go_wp2_with fail
        refine CO.out.mono ?_
        rintro e w7 hop
        obtain ⟨⟨v7, rfl⟩, h7, k7⟩ := opened_any hop
        have hm7 : (openD U0 d6 (64 + sz)).d.most = d6.most := openD_most U0 d6 (64 + sz)
        have R17 := Lib.hid (R16.out.again (size := 64 + sz))
        have H7 := Lib.hid h7
        have S7 := Lib.hid (S6.out.kept k7 fun g hg => .inl hg)
        have B7 := Lib.hid ((k7.2 _ (.inr rfl) (lt_of_block B6.out)).trans B6.out)
        generalize (openD U0 d6 (64 + sz)).d = d7 at H7 R17 hm7
        clear hop h7 k7 H6 S6 B6 R16 D6 CO
        have y5 := cell_of B7.out (i := 5) rfl
        have hxl := lt_of_block B7.out
        obtain ⟨j1, j2, j3, hc8, hm8, hr8⟩ := Rt.crashed H7.out.ok H7.out.ok.names R17.out lf
        go_wp2_with fail
        refine (H7.out.crash (d' := d7.crash lf) _ lf (R5.out.nw H7.out.base) (fun hne g hg => .inr (R5.out.lt hne g hg)) rfl).mono ?_
        rintro e w8 ⟨rfl, h8, k8⟩
        obtain ⟨d8, hd8⟩ : ∃ x, d7.crash lf = x := ⟨_, rfl⟩
        rw [hd8] at h8 hc8 hm8 hr8
        have H8 := Lib.hid h8
        have S8 := Lib.hid (S7.out.kept k8 fun g hg => .inl hg)
        have R18 := Lib.hid hr8
        have C8 := Lib.hid hc8
        have M8 : Hid (d8.most = 1048576) := Lib.hid (by rw [hm8, hm7, hm6]; exact MO2.out)
        have PF8 : Hid ((all2.take i1).take j1 <+: all2) := Lib.hid (List.IsPrefix.trans (List.take_prefix _ _) (List.take_prefix _ _))
        have hle8 := hr8.le
        generalize (all2.take i1).take j1 = told8 at R18 PF8 hle8
        obtain ⟨ps8, g8, sc8⟩ := R18.out.scanned C8.out.up
        have SC8 := Lib.hid sc8
        have DN8 := Lib.hid (R18.out.den0 C8.out.up)
        clear hd8 hc8 hm8 hr8 h8 k8 H7 S7 B7 R17 y5 hxl sc8 hm6 hm7
        go_wp2_with fail
        refine (Scan_ok H8.out DN8.out SC8.out).mono ?_
        rintro e w9 ⟨v9, p9, rfl, o1, o2⟩
        obtain ⟨xa9, xc9, rfl, -⟩ := o1.1.len
        obtain ⟨ya9, yc9, rfl, -⟩ := o2.1.len
        have U9 : Hid (Evs w9 (.slice xa9 told8.length xc9) told8) := Lib.hid ⟨o1.1.src, fun e he => HOK2.out e (PF8.out.subset he)⟩
        have H9 := Lib.hid (H8.out.nw o1.2.1)
        have S9 := Lib.hid (S8.out.nw o1.2.1)
        have A9 : Hid (Evs w9 (.slice sa2 m2 sc2) all2) := Lib.hid ⟨by rw [HM2.out]; exact S9.out.src, HOK2.out⟩
        clear o1 o2 H8 S8
        go_wp2_with fail
        refine (begins_ok U9.out A9.out PF8.out).mono ?_
        rintro e w10 ⟨rfl, n10⟩
        have H10 := Lib.hid (H9.out.nw n10)
        have S10 := Lib.hid (S9.out.nw n10)
        clear n10 H9 S9 A9 U9
        have q9 : decide ((told8.length : Int) < (ak : Int)) = false := by simp; omega
        go_wp2_with fail
        go_roundw
        case rel => exact ⟨k + 1, ak, j1, d8, all2, told8, m2, by omega, by go_num, rfl, H10.out.weak (fun x hx => .inl hx), C8.out, M8.out, R18.out, by omega, PF8.out, S10.out, HM2.out, by omega, HOK2.out, HFR2.out⟩
        case measure => simp [intOf]; omega
      obtain ⟨g', o', ea, ec, rfl, hg', hc0, hev⟩ := frame_at R0.out HNF.out h1
      have HCELL := Lib.hid hc0
      have HG := Lib.hid hg'
      have HEV := Lib.hid hev
      have hc1 := HL2.out.base.cell hc0
      have EV := Lib.hid (hev.nw HL2.out.base)
      have hgw : g' < wr.heap.size := Nat.lt_of_lt_of_le hg' HL2.out.base.size
      clear hc0 hev hg'
      generalize fs[j]'_ = es at hc1 EV HCELL HEV
      obtain ⟨n, hn⟩ : ∃ n, es.length = n := ⟨_, rfl⟩
      have HN := Lib.hid hn
      rw [hn] at hc1 EV HCELL HEV
      clear hn y1
      go_upto_region 20 with fail
      go_cut [126] (fun t wx => ∃ (x : Bool) (c' : Nat) (d' : Dsk) (L' : Lg), t = .bool x ∧ c' ≤ j + 1 ∧ c ≤ c' ∧ KInv (WholeU U0) d'.files L' (if x = true then all2 ++ es else all2) ∧ d'.most = 1048576 ∧ Rk (64 + sz) c' L' ∧ HasL (fun x => (Value.slice sa2 m2 sc2).ownBlock = some x ∨ x = xb) w wx p b d' L' ∧ Kept (fun x => (Value.slice sa2 m2 sc2).ownBlock = some x ∨ x = xb) wr wx ∧ (x = true → n ≤ 30 ∧ c' = c + 1))
      case first =>
        by_cases hz : n = 0
        case pos =>
          have q1 : decide ((0 : Int) < (n : Int)) = false := by simp; omega
          go_wp2_with fail
          go_meet
          case rel => exact ⟨false, c, d2, L2, rfl, by omega, by omega, KI2.out, MO2.out, RK2.out, HL2.out, Kept.refl _, fun h => by cases h⟩
        have q1 : decide ((0 : Int) < (n : Int)) = true := by simp; omega
        by_cases h30 : 30 < n
        case pos =>
          have q2 : decide ((n : Int) ≤ (30 : Int)) = false := by simp; omega
          go_wp2_with fail
          go_meet
          case rel => exact ⟨false, c, d2, L2, rfl, by omega, by omega, KI2.out, MO2.out, RK2.out, HL2.out, Kept.refl _, fun h => by cases h⟩
        have q2 : decide ((n : Int) ≤ (30 : Int)) = true := by simp; omega
        have C := Rk.call HL2.out KI2.out RK2.out HZ.out.2.2 (by omega) (by rw [HM2.out]; omega) HT.out EV.out
        have hln : L2.n < 2 ^ 64 := by have := KI2.out.facts.1; rw [this, HM2.out]; omega
        have hba := RK2.out.add (d := d2) (es := es) hln (by rw [HN.out]; omega)
        have hka := KI2.out.add (d := d2) (es := es) (seals_wholeU U0) EV.out.ok
        have hmo := add_most L2 d2 es
        obtain ⟨r, hr⟩ : ∃ r, L2.add d2 es = r := ⟨_, rfl⟩
        rw [hr] at C hba hka hmo
        obtain ⟨d', L', x⟩ := r
        have C := Lib.hid C
        have BA := Lib.hid hba
        have KA := Lib.hid hka
        have MA : Hid (d'.most = 1048576) := Lib.hid (hmo.trans MO2.out)
        clear hr hba hka hmo hln
        go_wp2_with fail
        refine C.out.mono ?_
        rintro e w5 ⟨rfl, L5, K5⟩
        have L5 := Lib.hid L5
        have K5 := Lib.hid K5
        by_cases hx : x = 0
        case neg =>
          have q3 : (x == 0) = false := by simpa using hx
          have kk := KA.out
          rw [if_neg hx] at kk
          have KA2 := Lib.hid kk
          clear kk
          go_wp2_with fail
          go_meet
          case rel => exact ⟨false, c + 1, d', L', rfl, by omega, by omega, KA2.out, MA.out, BA.out, L5.out, K5.out, fun h => by cases h⟩
        subst hx
        have kk := KA.out
        rw [if_pos rfl] at kk
        have KA2 := Lib.hid kk
        clear kk
        go_wp2_with fail
        go_meet
        case rel => exact ⟨true, c + 1, d', L', rfl, by omega, by omega, KA2.out, MA.out, BA.out, L5.out, K5.out, fun _ => ⟨by omega, rfl⟩⟩
      case rest =>
        obtain ⟨x, c', d', L', rfl, hc2, hc3, ki3, mo3, rk3, hl3, k3, hxn⟩ := hcut
        have MO3 := Lib.hid mo3
        have RK3 := Lib.hid rk3
        have HL3 := Lib.hid hl3
        have KI3 := Lib.hid ki3
        have HS3 := Lib.hid (HS2.out.kept k3 fun g hg => .inl hg)
        have HB3 := Lib.hid ((k3.2 _ (.inr rfl) (lt_of_block HB2.out)).trans HB2.out)
        clear mo3 rk3 hl3 ki3 k3 HL2 KI2 HS2 HB2 RK2 MO2 hc1 hgw EV y0 hxl
        go_upto_if 126 with fail
        go_cut [7] (fun s wx => ∃ (m3 : Nat) (all3 : List Ev), KInv (WholeU U0) d'.files L' all3 ∧ HasL (fun x => s.ownBlock = some x ∨ x = xb) w wx p b d' L' ∧ Vec 5 wx s m3 (all3.flatMap evV) ∧ all3.length = m3 ∧ m3 ≤ tl + 30 * c' ∧ (∀ e ∈ all3, e.Ok) ∧ (∀ g, s.ownBlock = some g → w.heap.size ≤ g) ∧
          wx.heap[xb]? = some (.cells #[.slice (some ⟨g', o', none⟩) nf fc, .slice ca na' cc, .int .i64 arm, .slice ka nk kc, .int .i64 ag, .slice la nlf lc] 86 (0, 0)))
        case first =>
          cases x with
          | false =>
            go_wp2_with fail
            go_meet
            case rel => exact ⟨m2, all2, KI3.out, HL3.out, HS3.out, HM2.out, by omega, HOK2.out, HFR2.out, HB3.out⟩
          | true =>
            obtain ⟨hn30, rfl⟩ := hxn rfl
            have hmn : m2 ≤ 1000000 := by omega
            have kk := KI3.out
            rw [if_pos rfl] at kk
            have KI4 := Lib.hid kk
            clear kk KI3
            have hcl := HL3.out.base.cell HCELL.out
            have hgl := Nat.lt_of_lt_of_le HG.out HL3.out.base.size
            have X5 := Lib.hid ((HEV.out.nw HL3.out.base).src)
            rw [HN.out] at X5
            have AE : Hid (Evs wc (.slice sa2 m2 sc2) all2) := Lib.hid ⟨by rw [HM2.out]; exact HS3.out.src, HOK2.out⟩
            go_upto_region 21 with fail
            have CE : Hid (∀ W, Nw wc W → Calls Tryz.prog 55 #[.slice sa2 m2 sc2] W fun e w' => ∃ v', e = .returned v' ∧ Vec 5 w' v' m2 (all2.flatMap evV) ∧ Nw W w' ∧ ∀ g, v'.ownBlock = some g → W.heap.size ≤ g) := Lib.hid (fun W hW => by
              have := CopyEvents_ok (AE.out.nw hW) (by rw [HM2.out]; exact hmn)
              rw [HM2.out] at this
              exact this)
            refine r21 (cs := all2.flatMap evV) (news := es.flatMap evV) CE (Lib.hid (cell_of HB3.out (i := 0) rfl)) (Lib.hid (lt_of_block HB3.out)) (Lib.hid hcl) (Lib.hid hgl) (Lib.hid h1) X5 (Lib.hid fun u hu => evV_one es u hu) (by omega) (fun _ _ _ _ _ h => h) ?_
            intro s127 s128 s129 s130 s131 s132 s133 s134 s7 a' c'' wx hs7 q5 q6 q7
            subst hs7
            have Q := Lib.hid (And.intro q5 (And.intro q6 q7))
            clear q5 q6 q7
            go_wp2_with fail
            go_meet
            case rel =>
              refine ⟨m2 + n, all2 ++ es, KI4.out, HL3.out.wider Q.out.2.1 (fun x hx => ?_), by rw [List.flatMap_append]; exact Q.out.1, by rw [List.length_append, HM2.out, HN.out], by omega, ?_, fun g hg => ?_, Q.out.2.1.at_ HB3.out⟩
              · rcases hx with hx | rfl
                · exact .inr ⟨Q.out.2.2 x hx, Q.out.1.lt x hx⟩
                · exact .inl (.inr rfl)
              · intro e he
                rcases List.mem_append.1 he with he | he
                · exact HOK2.out e he
                · exact HEV.out.ok e he
              · exact Nat.le_trans HL3.out.base.size (Q.out.2.2 g hg)
        case rest =>
          obtain ⟨m3, all3, ki4, hl4, hs4, hm4, hmc4, hok4, hfr4, hb4⟩ := hcut
          obtain ⟨sa4, sc4, rfl, -⟩ := hs4.len
          have KI4 := Lib.hid ki4
          have HL4 := Lib.hid hl4
          have HS4 := Lib.hid hs4
          have HM4 := Lib.hid hm4
          have HOK4 := Lib.hid hok4
          have HFR4 := Lib.hid hfr4
          have HB4 := Lib.hid hb4
          have y1 := cell_of hb4 (i := 1) rfl
          have hxl := lt_of_block hb4
          clear ki4 hl4 hs4 hm4 hok4 hfr4 hb4 KI3 HL3 HS3 HB3 HM2 HOK2 HFR2
          by_cases hka : j < na'
          case neg =>
            go_wp2_with fail
            go_roundw
            case rel => exact ⟨j + 1, c', m3, d', L', all3, by omega, by omega, by go_num, KI4.out, MO3.out, RK3.out, HL4.out, HS4.out, HM4.out, hmc4, HOK4.out, HFR4.out, HB4.out⟩
            case measure => simp [intOf]; omega
          obtain ⟨g2, o2, ha1, hg2, hcs⟩ := el_at R1.out HNA.out hka
          subst ha1
          have hcs := HL4.out.base.cell hcs
          have hg3 : g2 < wc.heap.size := Nat.lt_of_lt_of_le hg2 HL4.out.base.size
          clear hg2
          generalize (acs[j]'_ : Int) = z at hcs
          have hcs : wc.cell? ⟨g2, o2 + j, none⟩ = some (.int .i64 z) := hcs
          obtain ⟨rb, hrb⟩ : ∃ r, Int.tmod z 3 = r := ⟨_, rfl⟩
          by_cases hr0 : rb = 0
          case neg =>
            have q2 : (rb == 0) = false := by simpa using hr0
            go_wp2_with fail
            go_roundw
            case rel => exact ⟨j + 1, c', m3, d', L', all3, by omega, by omega, by go_num, KI4.out, MO3.out, RK3.out, HL4.out, HS4.out, HM4.out, hmc4, HOK4.out, HFR4.out, HB4.out⟩
            case measure => simp [intOf]; omega
          subst hr0
          have C := LSync_ok HL4.out
          have ks' := KI4.out.sync (d := d')
          have bs := RK3.out.sync (d := d')
          have hmo := sync_most L' d'
          obtain ⟨rs, hrs⟩ : ∃ r, L'.sync d' = r := ⟨_, rfl⟩
          rw [hrs] at C ks' bs hmo
          obtain ⟨d3, L3, x3⟩ := rs
          have C := Lib.hid C
          have KS := Lib.hid ks'
          have BS := Lib.hid bs
          have MS : Hid (d3.most = 1048576) := Lib.hid (hmo.trans MO3.out)
          clear hrs ks' bs hmo
          go_wp2_with fail
          refine C.out.mono ?_
          rintro e w8 ⟨rfl, L8, K8⟩
          have L8 := Lib.hid L8
          have S8 := Lib.hid (HS4.out.kept K8 fun g hg => .inl hg)
          have B8 := Lib.hid ((K8.2 _ (.inr rfl) (lt_of_block HB4.out)).trans HB4.out)
          clear K8 C hcs
          go_wp2_with fail
          go_roundw
          case rel => exact ⟨j + 1, c', m3, d3, L3, all3, by omega, by omega, by go_num, KS.out.1, MS.out, BS.out, L8.out, S8.out, HM4.out, hmc4, HOK4.out, HFR4.out, B8.out⟩
          case measure => simp [intOf]; omega
end Go.Proofs.YtphgiobklbpdeaaGreatDoor.RecoverKeeps
