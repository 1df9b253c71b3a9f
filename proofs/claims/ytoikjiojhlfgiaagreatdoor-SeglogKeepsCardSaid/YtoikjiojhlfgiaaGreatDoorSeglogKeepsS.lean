/-
  Texts merged by a program of this claim's: SeglogKeeps.
-/
import Derived.Test.YtoikjiojhlfgiaaGreatDoorM29
import Derived.Test.YtoikjiojhlfgiaaGreatDoorM22
import Derived.Test.YtoikjiojhlfgiaaGreatDoorM30
import Derived.Test.YtoikjiojhlfgiaaGreatDoorM21
/-
  amanuensislaw05.SeglogKeeps: behind any crash the files that the manifest names tell a beginning of all that was appended, and all that was acknowledged.
-/
namespace Go.Proofs.YtoikjiojhlfgiaaGreatDoor.SeglogKeeps
open Go Go.RowKit Go.Sort
set_option maxRecDepth 100000
set_option maxHeartbeats 1600000

theorem walk (w : World) (ht : Tab w) (v0 v1 v5 : Value) (fs : List (List Ev)) (acs : List Int) (size most arm : Int) (ks : List Int) (h0 : RdK 1 (isEvs w) w v0 fs) (h1 : Rd i64v w v1 acs ∧ ∀ z ∈ acs, -9223372036854775808 ≤ z ∧ z ≤ 9223372036854775807)
    (_h2 : -9223372036854775808 ≤ size ∧ size ≤ 9223372036854775807) (_h3 : -9223372036854775808 ≤ most ∧ most ≤ 9223372036854775807) (_h4 : -9223372036854775808 ≤ arm ∧ arm ≤ 9223372036854775807) (h5 : Rd i64v w v5 ks ∧ ∀ z ∈ ks, -9223372036854775808 ≤ z ∧ z ≤ 9223372036854775807) :
    Calls Tryz.prog 11 #[v0, v1, .int .i64 size, .int .i64 most, .int .i64 arm, v5] w fun e w' => e = .returned (.bool true) ∧ Nw w w' := by
  have HT := Lib.hid ht
  have HF := Lib.hid h0
  have HA := Lib.hid h1.1
  have HAB := Lib.hid h1.2
  have HK := Lib.hid h5.1
  obtain ⟨a0, c0, rfl, -⟩ := h0.len
  obtain ⟨a1, c1, rfl, hal⟩ := h1.1.len
  obtain ⟨a5, c5, rfl, -⟩ := h5.1.len
  have hna63 : acs.length ≤ 9223372036854775807 := by unfold maxLen at hal; omega
  clear ht h0 h1 _h2 _h3 _h4 h5 hal
  obtain ⟨nf, hnf⟩ : ∃ n, fs.length = n := ⟨_, rfl⟩
  obtain ⟨na, hna⟩ : ∃ n, acs.length = n := ⟨_, rfl⟩
  obtain ⟨nk, hnk⟩ : ∃ n, ks.length = n := ⟨_, rfl⟩
  rw [hnf] at HF ⊢
  rw [hna] at HA hna63 ⊢
  rw [hnk] at HK ⊢
  have HNF := Lib.hid hnf
  have HNA := Lib.hid hna
  clear hnf hna hnk
  have hm0 := Int.emod_nonneg most (by omega : (5000 : Int) ≠ 0)
  have hm1 := Int.emod_lt_of_pos most (by omega : (0 : Int) < 5000)
  have hp0 := Int.emod_nonneg size (by omega : (300 : Int) ≠ 0)
  have hp1 := Int.emod_lt_of_pos size (by omega : (0 : Int) < 300)
  have hq0 := Int.emod_nonneg arm (by omega : (120 : Int) ≠ 0)
  have hq1 := Int.emod_lt_of_pos arm (by omega : (0 : Int) < 120)
  obtain ⟨mo, hmo⟩ : ∃ x, most % 5000 = x := ⟨_, rfl⟩
  obtain ⟨sz, hsz⟩ : ∃ x, size % 300 = x := ⟨_, rfl⟩
  obtain ⟨ar, har⟩ : ∃ x, arm % 120 = x := ⟨_, rfl⟩
  rw [hmo] at hm0 hm1
  rw [hsz] at hp0 hp1
  rw [har] at hq0 hq1
  have PM := Lib.hid (fun W => Pick_ok most 5000 W (by omega) (by omega))
  have PS := Lib.hid (fun W => Pick_ok size 300 W (by omega) (by omega))
  have PA := Lib.hid (fun W => Pick_ok arm 120 W (by omega) (by omega))
  rw [hmo] at PM
  rw [hsz] at PS
  rw [har] at PA
  obtain ⟨F0, cr, -⟩ := create_calm' (300 + mo) (by omega) (size := 64 + sz) (by omega) (by omega)
  have CR := Lib.hid cr
  generalize ({ newDsk (300 + mo) with files := F0 } : Dsk) = d0 at CR
  have KI : Hid (KInv Whole d0.files (newLg (64 + sz)) []) := Lib.hid (KInv.new (300 + mo) (by omega) (by omega) (by omega) CR.out)
  have HZ0 : Hid (in64 (64 + sz)) := Lib.hid ⟨by omega, by omega⟩
  have HD := Lib.hid (HasX.new (300 + mo) w (by omega) (by omega))
  have HAR : Hid (ar ≤ 9223372036854775807) := Lib.hid (by omega)
  have hwm : IntKind.i64.wrap (300 + mo) = 300 + mo := IntWalk.i64_in _ (by omega)
  clear hmo hsz har cr
  go_enter Tryz.func11, Tryz.ntmps11
  go_wp2_with fail
  refine (PM.out w).mono ?_
  rintro e w1 ⟨rfl, rfl⟩
  go_wp2_with fail
  refine HD.out.mono ?_
  rintro e w1 ⟨b, rfl, H1⟩
  have H1 := Lib.hid H1
  clear hwm hm0 hm1 PM HD
  have hws : IntKind.i64.wrap (64 + sz) = 64 + sz := IntWalk.i64_in _ (by omega)
  go_wp2_with fail
  refine (PS.out w1).mono ?_
  rintro e w2 ⟨rfl, rfl⟩
  have HC := Lib.hid (Create_ok H1.out HT.out (64 + sz))
  have hcr := CR.out
  rw [hcr] at HC
  clear hcr
  go_wp2_with fail
  refine HC.out.mono ?_
  rintro e w3 ⟨-, ⟨-, p, rfl, L3⟩ | ⟨hx, -⟩⟩
  case inr => exact absurd rfl hx
  have L3 := Lib.hid L3
  clear HC H1 CR hws hp0 hp1 PS
  go_wp2_with fail
  refine (PA.out w3).mono ?_
  rintro e w2 ⟨rfl, rfl⟩
  go_wp2_with fail
  refine (L3.out.armed ar HAR.out).mono ?_
  rintro e w4 ⟨rfl, L4, -⟩
  have L4 := Lib.hid L4
  have KI : Hid (KInv Whole (d0.armed ar).files (newLg (64 + sz)) []) := Lib.hid (by rw [armed_files]; exact KI.out)
  clear L3 PA hq0 hq1 HAR
  generalize d0.armed ar = d1 at L4 KI
  go_wp2
  go_loopw [17, 18] (fun s i wr => ∃ (k c m : Nat) (d : Dsk) (L : Lg) (all : List Ev), k ≤ 60 ∧ c ≤ k ∧ i = .int .i64 k ∧ KInv Whole d.files L all ∧ Bk (64 + sz) c L ∧ HasL (fun j => s.ownBlock = some j) w wr p b d L ∧ Vec 5 wr s m (all.flatMap evV) ∧ all.length = m ∧ m ≤ 30 * c ∧ (∀ e ∈ all, e.Ok) ∧ ∀ g, s.ownBlock = some g → w.heap.size ≤ g) (fun _ i _ => 60 - (intOf i).toNat)
  case atStart => exact ⟨0, 0, 0, d1, _, [], by omega, by omega, rfl, KI.out, Bk.new, L4.out.grow (Only.refl _) (Z := fun _ => False) (fun k hk => hk.elim) (fun k hk => by cases hk), Vec.nil, rfl, by omega, (fun e he => by cases he), fun g hg => by cases hg⟩
  case round =>
    obtain ⟨k, c, m, d, L, all, hk, hck, rfl, hki, hbk, hL, hs, hm, hmc, hok, hfr⟩ := hrel
    have KK := Lib.hid hki
    have BK := Lib.hid hbk
    have HL := Lib.hid hL
    have HS := Lib.hid hs
    have HM := Lib.hid hm
    have HOK := Lib.hid hok
    have HFR := Lib.hid hfr
    obtain ⟨sa, sc, rfl, -⟩ := hs.len
    clear hki hbk hL hs hm hok hfr KI L4
    by_cases h1 : k < nf
    case neg =>
      obtain ⟨ak, hak⟩ : ∃ n, L.acked = n := ⟨_, rfl⟩
      have HAK := Lib.hid hak
      have hle := KK.out.le
      rw [HM.out, hak] at hle
      have hakm : ak ≤ m := by omega
      clear hak hle
      obtain ⟨i, ti, ai, im⟩ := told_crash HL.out.ok KK.out ks
      rw [HAK.out] at ai
      rw [HM.out] at im
      have TI := Lib.hid ti
      clear ti
      go_wp2_with fail
      refine (HL.out.ack HAK.out).mono ?_
      rintro e w5 ⟨rfl, rfl⟩
      go_wp2_with fail
      refine (HL.out.has.crash (d' := d.crash ks) _ ks ((HK.out.nw HL.out.base)) (fun hne g hg => .inr (HK.out.lt hne g hg)) rfl).mono ?_
      rintro e w6 ⟨rfl, H6, K6⟩
      have H6 := Lib.hid H6
      have S6 := Lib.hid (HS.out.kept K6 fun g hg => hg)
      clear K6
      go_wp2_with fail
      refine (told_ok H6.out TI.out).mono ?_
      rintro e w7 ⟨v7, rfl, o7⟩
      simp only [Option.isSome_some, Option.getD_some] at o7 ⊢
      have hli : (all.take i).length = i := by rw [List.length_take, HM.out]; omega
      have O7 := Lib.hid o7
      have v71 := o7.1
      rw [hli] at v71
      obtain ⟨ya, yc, rfl, -⟩ := v71.len
      have E7 : Hid (Evs w7 (.slice ya i yc) (all.take i)) := Lib.hid ⟨by rw [hli]; exact v71.src, fun e he => HOK.out e (List.mem_of_mem_take he)⟩
      have S7 := Lib.hid (S6.out.nw o7.2.1)
      have N7 := Lib.hid (H6.out.base.trans o7.2.1)
      obtain ⟨ca, cc, hsl, hE8⟩ := evs_h (S7.out.src) HM.out HOK.out i im
      have E8 := Lib.hid hE8
      have q1 : decide ((ak : Int) ≤ (i : Int)) = true := by simp; omega
      have q2 : decide ((i : Int) ≤ (m : Int)) = true := by simp; omega
      clear o7 v71 hE8 hli O7
      go_wp2_with fail
      refine (SameEvents_ok E7.out E8.out).mono ?_
      rintro e w8 ⟨rfl, n8⟩
      have N8 := Lib.hid (N7.out.trans n8)
      clear n8
      go_wp2_with fail
      refine (awake_ok w8 (HT.out.nw N8.out)).mono ?_
      rintro e w9 ⟨rfl, n9⟩
      have N9 := Lib.hid (N8.out.trans n9)
      clear n9
      go_wp2
      go_ret
      exact ⟨rfl, N9.out⟩
    by_cases h2 : k < 60
    case neg =>
      obtain ⟨ak, hak⟩ : ∃ n, L.acked = n := ⟨_, rfl⟩
      have HAK := Lib.hid hak
      have hle := KK.out.le
      rw [HM.out, hak] at hle
      have hakm : ak ≤ m := by omega
      clear hak hle
      obtain ⟨i, ti, ai, im⟩ := told_crash HL.out.ok KK.out ks
      rw [HAK.out] at ai
      rw [HM.out] at im
      have TI := Lib.hid ti
      clear ti
      go_wp2_with fail
      refine (HL.out.ack HAK.out).mono ?_
      rintro e w5 ⟨rfl, rfl⟩
      go_wp2_with fail
      refine (HL.out.has.crash (d' := d.crash ks) _ ks ((HK.out.nw HL.out.base)) (fun hne g hg => .inr (HK.out.lt hne g hg)) rfl).mono ?_
      rintro e w6 ⟨rfl, H6, K6⟩
      have H6 := Lib.hid H6
      have S6 := Lib.hid (HS.out.kept K6 fun g hg => hg)
      clear K6
      go_wp2_with fail
      refine (told_ok H6.out TI.out).mono ?_
      rintro e w7 ⟨v7, rfl, o7⟩
      simp only [Option.isSome_some, Option.getD_some] at o7 ⊢
      have hli : (all.take i).length = i := by rw [List.length_take, HM.out]; omega
      have O7 := Lib.hid o7
      have v71 := o7.1
      rw [hli] at v71
      obtain ⟨ya, yc, rfl, -⟩ := v71.len
      have E7 : Hid (Evs w7 (.slice ya i yc) (all.take i)) := Lib.hid ⟨by rw [hli]; exact v71.src, fun e he => HOK.out e (List.mem_of_mem_take he)⟩
      have S7 := Lib.hid (S6.out.nw o7.2.1)
      have N7 := Lib.hid (H6.out.base.trans o7.2.1)
      obtain ⟨ca, cc, hsl, hE8⟩ := evs_h (S7.out.src) HM.out HOK.out i im
      have E8 := Lib.hid hE8
      have q1 : decide ((ak : Int) ≤ (i : Int)) = true := by simp; omega
      have q2 : decide ((i : Int) ≤ (m : Int)) = true := by simp; omega
      clear o7 v71 hE8 hli O7
      go_wp2_with fail
      refine (SameEvents_ok E7.out E8.out).mono ?_
      rintro e w8 ⟨rfl, n8⟩
      have N8 := Lib.hid (N7.out.trans n8)
      clear n8
      go_wp2_with fail
      refine (awake_ok w8 (HT.out.nw N8.out)).mono ?_
      rintro e w9 ⟨rfl, n9⟩
      have N9 := Lib.hid (N8.out.trans n9)
      clear n9
      go_wp2
      go_ret
      exact ⟨rfl, N9.out⟩
    obtain ⟨g, o, ea, ec, rfl, hg, hc0, hev⟩ := frame_at HF.out HNF.out h1
    have hc1 := HL.out.base.cell hc0
    have EV := Lib.hid (hev.nw HL.out.base)
    have hgw : g < wr.heap.size := Nat.lt_of_lt_of_le hg HL.out.base.size
    have HCELL := Lib.hid hc0
    have HG := Lib.hid hg
    have HEV := Lib.hid hev
    clear hc0 hev hg
    generalize fs[k]'_ = es at hc1 EV HCELL HEV
    obtain ⟨n, hn⟩ : ∃ n, es.length = n := ⟨_, rfl⟩
    have HN := Lib.hid hn
    rw [hn] at hc1 EV HCELL HEV
    clear hn
    by_cases hz : n = 0
    case pos =>
      subst hz
      go_wp2_with fail
      go_roundw
      case rel => exact ⟨k + 1, c, m, d, L, all, by omega, by omega, by go_num, KK.out, BK.out, HL.out, HS.out, HM.out, hmc, HOK.out, HFR.out⟩
      case measure => simp [intOf]; omega
    have hz1 : ((n : Int) == 0) = false := by simp; omega
    by_cases h30 : 30 < n
    case pos =>
      have hz2 : decide ((30 : Int) < (n : Int)) = true := by simp; omega
      go_wp2_with fail
      go_roundw
      case rel => exact ⟨k + 1, c, m, d, L, all, by omega, by omega, by go_num, KK.out, BK.out, HL.out, HS.out, HM.out, hmc, HOK.out, HFR.out⟩
      case measure => simp [intOf]; omega
    have hz2 : decide ((30 : Int) < (n : Int)) = false := by simp; omega
    obtain ⟨ov, hov⟩ : ∃ x, L.over = x := ⟨_, rfl⟩
    have HOV := Lib.hid hov
    clear hov
    go_wp2_with fail
    refine (HL.out.over HOV.out).mono ?_
    rintro e w5 ⟨rfl, rfl⟩
    have C := Bk.call HL.out BK.out HZ0.out (by omega) (by have := BK.out.len; omega) HT.out EV.out
    have hba := BK.out.addAny (d := d) (es := es) (by omega) (by rw [HN.out]; exact hz) (by rw [HN.out]; omega)
    have hka := KK.out.add (d := d) (es := es) seals_whole EV.out.ok
    obtain ⟨r, hr⟩ : ∃ r, L.add d es = r := ⟨_, rfl⟩
    rw [hr] at C hba hka
    obtain ⟨d', L', x⟩ := r
    have C := Lib.hid C
    have BA := Lib.hid hba
    have KA := Lib.hid hka
    clear hr hba hka
    go_wp2_with fail
    refine C.out.mono ?_
    rintro e w5 ⟨rfl, L5, K5⟩
    have L5 := Lib.hid L5
    have S5 := Lib.hid (HS.out.kept K5 fun g hg => hg)
    clear C EV hc1 hgw HL HS K5
    go_upto_if 82 with fail
    go_cut [17] (fun s wx => ∃ (m2 : Nat) (all2 : List Ev), KInv Whole d'.files L' all2 ∧ HasL (fun j => s.ownBlock = some j) w wx p b d' L' ∧ Vec 5 wx s m2 (all2.flatMap evV) ∧ all2.length = m2 ∧ m2 ≤ 30 * (c + 1) ∧ (∀ e ∈ all2, e.Ok) ∧ (∀ g, s.ownBlock = some g → w.heap.size ≤ g) ∧ Nw w wx)
    case first =>
      by_cases hx : x = 0
      case neg =>
        have q1 : (x == 0) = false := by simpa using hx
        have kk := KA.out
        rw [if_neg hx] at kk
        have KA2 := Lib.hid kk
        clear kk
        go_wp2_with fail
        go_meet
        case rel => exact ⟨m, all, KA2.out, L5.out, S5.out, HM.out, by omega, HOK.out, HFR.out, L5.out.base⟩
      subst hx
      have kk := KA.out
      rw [if_pos rfl] at kk
      have KA2 := Lib.hid kk
      clear kk
      have hcl := L5.out.base.cell HCELL.out
      have hgl := Nat.lt_of_lt_of_le HG.out L5.out.base.size
      have X5 := Lib.hid ((HEV.out.nw L5.out.base).src)
      rw [HN.out] at X5
      obtain ⟨i0, hi, hz0, hz1, hz2⟩ := info_parts infoEv
      have HI := Lib.hid hi
      have HZ0' := Lib.hid hz0
      have HZ1 := Lib.hid hz1
      have HZ2 := Lib.hid hz2
      clear hi hz0 hz1 hz2
      go_wp2_with (at_builtin; refine wpList_append_vec rfl _ _ 33 rfl 55 i0 (.agg #[.int .i64 0, .int .u8 0, .int .i64 0, .int .i64 0, .int .i64 0]) 5 40 Tryz.underlying33 HI.out HZ0'.out HZ1.out HZ2.out rfl (by decide) rfl rfl S5.out X5.out ?c1 ?c2 ?c3 ?_)
      case c1 => exact fun u x hx hu => evV_one es u (List.mem_flatMap.2 ⟨x, hx, hu⟩)
      case c2 => unfold maxLen; omega
      case c3 => omega
      intro v5 w6 q5 q6 q7
      obtain ⟨ta, tc, rfl, -⟩ := q5.len
      have hlt5 := q5.lt
      have Q := Lib.hid (And.intro q5 (And.intro q6 (And.intro q7 hlt5)))
      clear q5 q6 q7 hlt5
      go_wp2_with fail
      go_meet
      case rel =>
        have hl6 : HasL (fun j => (Value.slice ta (m + n) tc).ownBlock = some j) w w6 p b d' L' := L5.out.grow Q.out.2.1 (fun k hk _ => ⟨hk, HFR.out k hk⟩) (fun k hk => by
          rcases Q.out.2.2.1 with h | h
          · exact .inl (h ▸ hk)
          · exact .inr ⟨h k hk, Q.out.2.2.2 k hk⟩)
        refine ⟨m + n, all ++ es, KA2.out, hl6, by rw [List.flatMap_append]; exact Q.out.1, by rw [List.length_append, HM.out, HN.out], by omega, ?_, fun g hg => ?_, hl6.base⟩
        · intro e he
          rcases List.mem_append.1 he with he | he
          · exact HOK.out e he
          · exact HEV.out.ok e he
        · rcases Q.out.2.2.1 with h | h
          · exact HFR.out g (h ▸ hg)
          · exact Nat.le_trans L5.out.base.size (h g hg)
    case rest =>
      obtain ⟨m2, all2, ki2, hl2, hs2, hm2, hmc2, hok2, hfr2, hb2⟩ := hcut
      obtain ⟨sa2, sc2, rfl, -⟩ := hs2.len
      have KK2 := Lib.hid ki2
      have HL2 := Lib.hid hl2
      have HS2 := Lib.hid hs2
      have HM2 := Lib.hid hm2
      have HOK2 := Lib.hid hok2
      have HFR2 := Lib.hid hfr2
      have hle := ki2.le
      rw [hm2] at hle
      obtain ⟨ak, hak⟩ : ∃ n, L'.acked = n := ⟨_, rfl⟩
      have HAK := Lib.hid hak
      have HLN := Lib.hid hle.2
      rw [hak, hle.2] at hle
      have he1 := hle.1
      have hx16 : (x == 16) = ov := by rw [BA.out.2.1, HOV.out]
      have hov2 : (ov != ov) = false := by simp
      clear ki2 hl2 hs2 hm2 hok2 hfr2 hb2 hle hak KA L5 S5 HM HOK HFR
      go_wp2_with fail
      refine (HL2.out.len HLN.out).mono ?_
      rintro e w7 ⟨rfl, rfl⟩
      go_wp2_with fail
      refine (HL2.out.ack HAK.out).mono ?_
      rintro e w7 ⟨rfl, rfl⟩
      go_wp2_with fail
      refine (HL2.out.len HLN.out).mono ?_
      rintro e w7 ⟨rfl, rfl⟩
      have hd : decide ((m2 : Int) < (ak : Int)) = false := by simp; omega
      go_upto_region 17 with fail
      by_cases hka : k < na
      case neg =>
        have q1 : decide ((k : Int) < (na : Int)) = false := by simp; omega
        go_wp2_with fail
        go_roundw
        case rel => exact ⟨k + 1, c + 1, m2, d', L', all2, by omega, by omega, by go_num, KK2.out, BA.out.1, HL2.out, HS2.out, HM2.out, hmc2, HOK2.out, HFR2.out⟩
        case measure => simp [intOf]; omega
      have q1 : decide ((k : Int) < (na : Int)) = true := by simp; omega
      obtain ⟨g', o', ha1, hg', hcs⟩ := el_at HA.out HNA.out hka
      subst ha1
      have hcs := HL2.out.base.cell hcs
      have hg2 : g' < wc.heap.size := Nat.lt_of_lt_of_le hg' HL2.out.base.size
      clear hg'
      generalize (acs[k]'_ : Int) = z at hcs
      have hcs : wc.cell? ⟨g', o' + k, none⟩ = some (.int .i64 z) := hcs
      obtain ⟨rb, hrb⟩ : ∃ r, Int.tmod z 3 = r := ⟨_, rfl⟩
      by_cases hr0 : rb = 0
      case neg =>
        have q2 : (rb == 0) = false := by simpa using hr0
        go_wp2_with fail
        go_roundw
        case rel => exact ⟨k + 1, c + 1, m2, d', L', all2, by omega, by omega, by go_num, KK2.out, BA.out.1, HL2.out, HS2.out, HM2.out, hmc2, HOK2.out, HFR2.out⟩
        case measure => simp [intOf]; omega
      subst hr0
      have C := LSync_ok HL2.out
      have ks := KK2.out.sync (d := d')
      have bs := BA.out.1.syncAny (d := d')
      obtain ⟨rs, hrs⟩ : ∃ r, L'.sync d' = r := ⟨_, rfl⟩
      rw [hrs] at C ks bs
      obtain ⟨d3, L3, x3⟩ := rs
      have C := Lib.hid C
      have KS := Lib.hid ks
      have BS := Lib.hid bs
      clear hrs ks bs
      go_wp2_with fail
      refine C.out.mono ?_
      rintro e w8 ⟨rfl, L8, K8⟩
      have L8 := Lib.hid L8
      have S8 := Lib.hid (HS2.out.kept K8 fun g hg => hg)
      clear K8 C hcs
      by_cases hx3 : x3 = 0
      case neg =>
        have q2 : (x3 == 0) = false := by simpa using hx3
        go_wp2_with fail
        go_roundw
        case rel => exact ⟨k + 1, c + 1, m2, d3, L3, all2, by omega, by omega, by go_num, KS.out.1, BS.out, L8.out, S8.out, HM2.out, hmc2, HOK2.out, HFR2.out⟩
        case measure => simp [intOf]; omega
      subst hx3
      have ha3 : L3.acked = m2 := by
        have := KS.out.2.1 rfl
        rw [this, HLN.out]
      have HA3 := Lib.hid ha3
      clear ha3
      go_wp2_with fail
      refine (L8.out.ack HA3.out).mono ?_
      rintro e w9 ⟨rfl, rfl⟩
      go_wp2_with fail
      go_roundw
      case rel => exact ⟨k + 1, c + 1, m2, d3, L3, all2, by omega, by omega, by go_num, KS.out.1, BS.out, L8.out, S8.out, HM2.out, hmc2, HOK2.out, HFR2.out⟩
      case measure => simp [intOf]; omega
end Go.Proofs.YtoikjiojhlfgiaaGreatDoor.SeglogKeeps
