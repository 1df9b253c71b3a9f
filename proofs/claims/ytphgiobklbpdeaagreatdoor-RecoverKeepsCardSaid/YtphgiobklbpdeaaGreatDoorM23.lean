/-
  Texts merged by a program of this claim's: ReadD.
-/
import Derived.Test.YtphgiobklbpdeaaGreatDoorM22
import Derived.Test.YtphgiobklbpdeaaGreatDoorShelfS
/-
  Package segment, walked: head, Scan.
-/
namespace Go.Proofs.YtphgiobklbpdeaaGreatDoor
open Go Go.RowKit Go.Sort
set_option maxRecDepth 100000
set_option maxHeartbeats 1600000

theorem HP_ok (s p : List UInt8) (w : World) : Calls Tryz.prog 69 #[.string ⟨s.toArray⟩, .string ⟨p.toArray⟩] w fun e w' => e = .returned (.bool (decide (p <+: s))) ∧ w = w' := by
  refine (Tryz.strings_HasPrefix ⟨s.toArray⟩ ⟨p.toArray⟩ w).mono ?_
  rintro e w' ⟨rfl, rfl⟩
  refine ⟨?_, rfl⟩
  have : Lib.hasPrefix s p = decide (p <+: s) := by
    unfold Lib.hasPrefix
    rw [Bool.eq_iff_iff, List.isPrefixOf_iff_prefix, decide_eq_true_iff]
  show Ending.returned (.bool (Lib.hasPrefix s p)) = _
  rw [this]
theorem shead_ok {w : World} {v : Value} {l : List UInt8} (hv : Bs w v l) (hl : l.length ≤ 90000000) {n x e : Int} (hr : headR l = (n, x, e)) :
    Calls Tryz.prog 190 #[v] w fun z w' => z = .returned (.tuple #[.int .i64 n, .int .i64 x, .int .i64 e]) ∧ Nw w w' := by
  obtain ⟨a, cap, rfl, h1, h2, -⟩ := hv.elems
  have HV := Lib.hid hv
  clear h1 h2 hv
  by_cases c4 : l.length < 4
  · obtain ⟨a', c', hb, hlen, s1, s2⟩ := bs_h HV.out l.length (Nat.le_refl _)
    rw [List.take_length] at hb
    have k1 := conv_str hb
    obtain ⟨⟨n0, x0, e0⟩, hu⟩ : ∃ y, getU l l.length = y := ⟨_, rfl⟩
    have HU := Lib.hid (GetUint_ok HV.out l.length ⟨by omega, by omega⟩ hu)
    have hmn : min (l.length : Int) 4 = (l.length : Int) := by omega
    have HP := Lib.hid (HP_ok plainS l w)
    unfold headR at hr
    rw [List.take_of_length_le (by omega)] at hr
    clear hb hu hlen
    by_cases hp : l <+: plainS
    case neg =>
      rw [if_pos hp] at hr
      obtain ⟨rfl, rfl, rfl⟩ : 0 = n ∧ 0 = x ∧ 10 = e := by simpa using hr
      rw [show decide (l <+: plainS) = false by simpa using hp] at HP
      clear hr
      go_enter Tryz.func190, Tryz.ntmps190
      go_wp2_with fail
      refine HP.out.mono ?_
      rintro z w' ⟨rfl, rfl⟩
      go_wp2
      refine bodyPost_ret (v := .tuple #[.int .i64 0, .int .i64 0, .int .i64 10]) (by simp [results, Tryz.results190, go_sem]) rfl ⟨rfl, Nw.refl _⟩
    case pos =>
      rw [if_neg (by simpa using hp), if_pos c4] at hr
      obtain ⟨rfl, rfl, rfl⟩ : 0 = n ∧ 0 = x ∧ 11 = e := by simpa using hr
      rw [show decide (l <+: plainS) = true by simpa using hp] at HP
      clear hr
      go_enter Tryz.func190, Tryz.ntmps190
      go_wp2_with fail
      refine HP.out.mono ?_
      rintro z w' ⟨rfl, rfl⟩
      go_wp2_with fail
      refine HU.out.mono ?_
      rintro z w' ⟨rfl, rfl⟩
      go_wp2
      refine bodyPost_ret (v := .tuple #[.int .i64 0, .int .i64 0, .int .i64 11]) (by simp [results, Tryz.results190, go_sem]) rfl ⟨rfl, Nw.refl _⟩
  obtain ⟨a', c', hb, hlen, s1, s2⟩ := bs_h HV.out 4 (by omega)
  rw [show ((4 : Nat) : Int) = 4 from rfl] at s1 s2
  have k1 := conv_str hb
  obtain ⟨⟨n0, x0, e0⟩, hu⟩ : ∃ y, getU l 4 = y := ⟨_, rfl⟩
  have HU := Lib.hid (GetUint_ok HV.out 4 ⟨by omega, by omega⟩ hu)
  have hf := getU_fine (b := l) (at_ := 4)
  have hmn : min (l.length : Int) 4 = 4 := by omega
  have HP := Lib.hid (HP_ok plainS (l.take 4) w)
  unfold headR at hr
  rw [hu] at hf hr
  simp only at hf hr
  clear hb hu hlen
  by_cases hp : l.take 4 <+: plainS
  case neg =>
    rw [if_pos hp] at hr
    obtain ⟨rfl, rfl, rfl⟩ : 0 = n ∧ 0 = x ∧ 10 = e := by simpa using hr
    rw [show decide (l.take 4 <+: plainS) = false by simpa using hp] at HP
    clear hr hf
    go_enter Tryz.func190, Tryz.ntmps190
    go_wp2_with fail
    refine HP.out.mono ?_
    rintro z w' ⟨rfl, rfl⟩
    go_wp2
    refine bodyPost_ret (v := .tuple #[.int .i64 0, .int .i64 0, .int .i64 10]) (by simp [results, Tryz.results190, go_sem]) rfl ⟨rfl, Nw.refl _⟩
  rw [if_neg (by simpa using hp), if_neg c4] at hr
  rw [show decide (l.take 4 <+: plainS) = true by simpa using hp] at HP
  clear hp
  by_cases c0 : e0 = 0
  case neg =>
    have q1 : (e0 == 0) = false := by simpa using c0
    have q2 : (e0 != 0) = true := by simpa using c0
    rw [if_neg (fun h => c0 h.1), if_pos c0] at hr
    obtain ⟨rfl, rfl, rfl⟩ : 0 = n ∧ 0 = x ∧ e0 = e := by simpa using hr
    clear hr hf
    go_enter Tryz.func190, Tryz.ntmps190
    go_wp2_with fail
    refine HP.out.mono ?_
    rintro z w' ⟨rfl, rfl⟩
    go_wp2_with fail
    refine HU.out.mono ?_
    rintro z w' ⟨rfl, rfl⟩
    go_wp2
    refine bodyPost_ret (v := .tuple #[.int .i64 0, .int .i64 0, .int .i64 e0]) (by simp [results, Tryz.results190, go_sem]) rfl ⟨rfl, Nw.refl _⟩
  subst c0
  obtain ⟨-, f1, f2, f3⟩ := hf rfl
  obtain ⟨k, rfl⟩ : ∃ k : Nat, x0 = k := ⟨x0.toNat, by omega⟩
  clear hf
  by_cases c1 : 4611686018427387904 < n0
  · have q1 : decide ((4611686018427387904 : Int) < (n0 : Int)) = true := by simp; omega
    rw [if_pos ⟨rfl, c1⟩] at hr
    obtain ⟨rfl, rfl, rfl⟩ : 0 = n ∧ 0 = x ∧ 10 = e := by simpa using hr
    clear hr
    go_enter Tryz.func190, Tryz.ntmps190
    go_wp2_with fail
    refine HP.out.mono ?_
    rintro z w' ⟨rfl, rfl⟩
    go_wp2_with fail
    refine HU.out.mono ?_
    rintro z w' ⟨rfl, rfl⟩
    go_wp2
    refine bodyPost_ret (v := .tuple #[.int .i64 0, .int .i64 0, .int .i64 10]) (by simp [results, Tryz.results190, go_sem]) rfl ⟨rfl, Nw.refl _⟩
  have q1 : decide ((4611686018427387904 : Int) < (n0 : Int)) = false := by simp; omega
  rw [if_neg (fun h => c1 h.2), if_neg (by simp)] at hr
  have hw : IntKind.i64.wrap ((k : Int) + 4) = (k : Int) + 4 := IntWalk.i64_in _ (by omega)
  by_cases c2 : (l.length : Int) < (k : Int) + 4
  · have q2 : decide ((l.length : Int) < (k : Int) + 4) = true := by simpa using c2
    rw [if_pos c2] at hr
    obtain ⟨rfl, rfl, rfl⟩ : 0 = n ∧ 0 = x ∧ 11 = e := by simpa using hr
    clear hr
    go_enter Tryz.func190, Tryz.ntmps190
    go_wp2_with fail
    refine HP.out.mono ?_
    rintro z w' ⟨rfl, rfl⟩
    go_wp2_with fail
    refine HU.out.mono ?_
    rintro z w' ⟨rfl, rfl⟩
    go_wp2
    refine bodyPost_ret (v := .tuple #[.int .i64 0, .int .i64 0, .int .i64 11]) (by simp [results, Tryz.results190, go_sem]) rfl ⟨rfl, Nw.refl _⟩
  have q2 : decide ((l.length : Int) < (k : Int) + 4) = false := by simpa using c2
  rw [if_neg c2] at hr
  obtain ⟨a2, c2', hb2, hl2, t1, t2⟩ := bs_h HV.out (k + 4) (by omega)
  rw [show ((k + 4 : Nat) : Int) = (k : Int) + 4 by omega] at t1 t2
  simp only [Int.toNat_natCast] at hr
  obtain ⟨⟨u, e1⟩, hun⟩ : ∃ y, unsealB (l.take (k + 4)) = y := ⟨_, rfl⟩
  have HUN := Lib.hid (Unseal_ok hb2 (by omega) hun)
  rw [hun] at hr
  simp only at hr
  have hw3 : IntKind.i64.wrap (n0 : Int) = (n0 : Int) := IntWalk.i64_in _ (by omega)
  clear hb2 hl2 hun HV
  by_cases c3 : e1 = 0
  case neg =>
    have q3 : (e1 != 0) = true := by simpa using c3
    rw [if_pos c3] at hr
    obtain ⟨rfl, rfl, rfl⟩ : 0 = n ∧ 0 = x ∧ e1 = e := by simpa using hr
    clear hr hw3
    go_enter Tryz.func190, Tryz.ntmps190
    go_wp2_with fail
    refine HP.out.mono ?_
    rintro z w' ⟨rfl, rfl⟩
    go_wp2_with fail
    refine HU.out.mono ?_
    rintro z w' ⟨rfl, rfl⟩
    go_wp2_with fail
    refine HUN.out.mono ?_
    rintro z w1 ⟨v1, rfl, -, n1⟩
    have N1 := Lib.hid n1
    clear n1
    go_wp2
    refine bodyPost_ret (v := .tuple #[.int .i64 0, .int .i64 0, .int .i64 e1]) (by simp [results, Tryz.results190, go_sem]) rfl ⟨rfl, N1.out⟩
  subst c3
  rw [if_neg (by simp)] at hr
  obtain ⟨rfl, rfl, rfl⟩ : (n0 : Int) = n ∧ (k : Int) + 4 = x ∧ 0 = e := by simpa using hr
  clear hr
  go_enter Tryz.func190, Tryz.ntmps190
  go_wp2_with fail
  refine HP.out.mono ?_
  rintro z w' ⟨rfl, rfl⟩
  go_wp2_with fail
  refine HU.out.mono ?_
  rintro z w' ⟨rfl, rfl⟩
  go_wp2_with fail
  refine HUN.out.mono ?_
  rintro z w1 ⟨v1, rfl, -, n1⟩
  have N1 := Lib.hid n1
  clear n1
  go_wp2
  refine bodyPost_ret (v := .tuple #[.int .i64 n0, .int .i64 ((k : Int) + 4), .int .i64 0]) (by simp [results, Tryz.results190, go_sem]) rfl ⟨rfl, N1.out⟩
theorem evsFrom_place : ∀ (b : List UInt8) (n : Nat) (at_ : Int) (x : Ev) (acc l : List Ev) (to_ : Int), evsFrom b n at_ x acc = some (l, to_) → at_ + n ≤ to_
  | _, 0, at_, x, acc, l, to_, h => by
    simp only [evsFrom, Option.some.injEq, Prod.mk.injEq] at h
    omega
  | b, n + 1, at_, x, acc, l, to_, h => by
    unfold evsFrom at h
    split at h
    · cases h
    · rename_i he
      have hx := getE_fine (b := b) (at_ := at_) (x := x) (by rcases Decidable.em ((getE b at_ x).2.2 = 0) with h | h; exact h; exact absurd h he)
      have := evsFrom_place b n _ _ _ _ _ h
      omega
theorem eventsB_len {b : List UInt8} (h : (eventsB b).2 = true) : (eventsB b).1.length ≤ b.length := by
  unfold eventsB at h ⊢
  split
  · rename_i h0; rw [if_pos h0] at h; cases h
  · rename_i h0
    rw [if_neg h0] at h
    have hu := getU_fine (b := b) (at_ := 0) (by rcases Decidable.em ((getU b 0).2.2 = 0) with h | h; exact h; exact absurd (.inl h) h0)
    cases hc : evsFrom b (getU b 0).1 (getU b 0).2.1 Ev.zero [] with
    | none => rw [hc] at h; cases h
    | some r =>
      obtain ⟨l, to_⟩ := r
      have h1 := evsFrom_fine _ _ _ _ _ _ hc (fun _ h => by cases h)
      have h2 := evsFrom_place _ _ _ _ _ _ _ hc
      rw [hc] at h
      simp only [decide_eq_true_eq] at h
      have h3 := h1.2
      simp only [List.length_nil, Nat.zero_add] at h3
      simp only
      omega
theorem readFr_len {b : List UInt8} {at_ : Int} (h : (readFr b at_).2.2 = 0) : ((readFr b at_).1.length : Int) ≤ (readFr b at_).2.1 - at_ := by
  unfold readFr at h ⊢
  split
  · rename_i h0; rw [if_pos h0] at h; exact absurd h h0
  · rename_i h0
    rw [if_neg h0] at h
    have hu := getU_fine (b := b) (at_ := at_) (by rcases Decidable.em ((getU b at_).2.2 = 0) with h | h; exact h; exact absurd h h0)
    split
    · rename_i h1; rw [if_pos h1] at h; exact absurd h (by decide)
    · rename_i h1
      rw [if_neg h1] at h
      split
      · rename_i h2; rw [if_pos h2] at h; exact absurd h (by decide)
      · rename_i h2
        rw [if_neg h2] at h
        split
        · rename_i h3; rw [if_pos h3] at h; exact absurd h h3
        · rename_i h3
          rw [if_neg h3] at h
          have h5 := unsealB_len (b := frameIn b at_) (by rcases Decidable.em ((unsealB (frameIn b at_)).2 = 0) with h | h; exact h; exact absurd h h3)
          have h6 : (frameIn b at_).length ≤ (getU b at_).1 + 4 := by unfold frameIn; simp; omega
          split
          · rename_i h4
            have := eventsB_len h4
            simp only
            omega
          · rename_i h4
            rw [if_neg h4] at h
            exact absurd h (by decide)
theorem frs_yes' {b : List UInt8} {at_ : Int} {r : List Ev} {x : Int} (h : readFr b at_ = (r, x, 0)) (acc : List Ev) : frs b at_ acc = frs b x (acc ++ r) := by
  have := frs_yes (b := b) (at_ := at_) (by rw [h]) acc
  rw [h] at this
  exact this
/-- What Scan hands back. -/
theorem SScan_ok {w : World} {v : Value} {l : List UInt8} (hv : Bs w v l) (hl : l.length ≤ 90000000) {n g e : Int} {r : List Ev} (hr : scanB l = (n, r, g, e)) :
    Calls Tryz.prog 172 #[v] w fun z w' => ∃ v', z = .returned (.tuple #[.int .i64 n, v', .int .i64 g, .int .i64 e]) ∧ OwnE w w' v' r := by
  obtain ⟨a, cap, rfl, h1, h2, -⟩ := hv.elems
  obtain ⟨⟨n0, x0, e0⟩, hu⟩ : ∃ y, headR l = y := ⟨_, rfl⟩
  have HU := Lib.hid (shead_ok hv hl hu)
  unfold scanB at hr
  rw [hu] at hr
  simp only at hr
  have HV := Lib.hid hv
  have hplace : e0 = 0 → 0 ≤ x0 ∧ x0 ≤ l.length := by
    intro h0
    unfold headR at hu
    split at hu
    · cases hu; cases h0
    · split at hu
      · cases hu; cases h0
      · split at hu
        · cases hu; cases h0
        · split at hu
          · rename_i hx; cases hu; exact absurd h0 hx
          · rename_i h4
            have hg := getU_fine (b := l) (at_ := 4) (by rcases Decidable.em ((getU l 4).2.2 = 0) with h | h; exact h; exact absurd h h4)
            split at hu
            · cases hu; cases h0
            · split at hu
              · rename_i hx; cases hu; exact absurd h0 hx
              · cases hu
                omega
  clear hv h1 h2 hu
  by_cases c0 : e0 = 0
  case neg =>
    have q1 : (e0 != 0) = true := by simpa using c0
    rw [if_pos c0] at hr
    obtain ⟨rfl, rfl, rfl, rfl⟩ : 0 = n ∧ [] = r ∧ 0 = g ∧ e0 = e := by simpa using hr
    clear hr hplace
    go_enter Tryz.func172, Tryz.ntmps172
    go_wp2_with fail
    refine HU.out.mono ?_
    rintro z w1 ⟨rfl, n1⟩
    have N1 := Lib.hid n1
    clear n1
    go_wp2
    refine bodyPost_ret (v := .tuple #[.int .i64 0, .slice none 0 0, .int .i64 0, .int .i64 e0]) (by simp [results, Tryz.results172, go_sem]) rfl ⟨_, rfl, Vec.nil, N1.out, fun g hg => by cases hg⟩
  subst c0
  rw [if_neg (by simp)] at hr
  obtain ⟨hp0, hp1⟩ := hplace rfl
  obtain ⟨E, hE⟩ : ∃ E, frs l x0 [] = E := ⟨_, rfl⟩
  rw [hE] at hr
  obtain ⟨E1, E2⟩ := E
  obtain ⟨rfl, rfl, rfl, rfl⟩ : n0 = n ∧ E1 = r ∧ E2 = g ∧ 0 = e := by simpa using hr
  obtain ⟨i0, hi, hz0, hz1, hz2⟩ := info_parts infoEv
  have HI := Lib.hid hi
  have HZ0 := Lib.hid hz0
  have HZ1 := Lib.hid hz1
  have HZ2 := Lib.hid hz2
  have HE := Lib.hid hE
  have HX0 := Lib.hid (And.intro hp0 hp1)
  clear hi hz0 hz1 hz2 hr hplace hE hp0 hp1
  go_enter Tryz.func172, Tryz.ntmps172
  go_wp2_with fail
  refine HU.out.mono ?_
  rintro z w1 ⟨rfl, n1⟩
  have N1 := Lib.hid n1
  clear n1
  go_wp2
  go_loopw [7, 9] (fun av s wr => ∃ (at_ : Int) (acc : List Ev) (m : Nat), av = .int .i64 at_ ∧ 0 ≤ at_ ∧ at_ ≤ l.length ∧ frs l at_ acc = (E1, E2) ∧ Vec 5 wr s m (acc.flatMap evV) ∧ acc.length = m ∧ (m : Int) ≤ at_ ∧ Nw w wr ∧ ∀ g, s.ownBlock = some g → w.heap.size ≤ g) (fun av _ _ => l.length - (intOf av).toNat)
  case atStart => exact ⟨x0, [], 0, rfl, HX0.out.1, HX0.out.2, HE.out, Vec.nil, rfl, by simpa using HX0.out.1, N1.out, fun g hg => by cases hg⟩
  case round =>
    obtain ⟨at_, acc, m, rfl, ha0, ha1, hE1, hs, hm, hma, hw, hfr⟩ := hrel
    obtain ⟨⟨r1, x1, e1⟩, hg⟩ : ∃ y, readFr l at_ = y := ⟨_, rfl⟩
    have C := Lib.hid (ERead_ok (HV.out.nw hw) hl at_ ⟨by omega, by omega⟩ hg)
    have HG := Lib.hid hg
    obtain ⟨sa, sc, rfl, -⟩ := hs.len
    have HS := Lib.hid (And.intro hs (And.intro hw hfr))
    have HE1 := Lib.hid hE1
    have HM := Lib.hid hm
    clear hg hs hw hfr hE1 hm
    go_wp2_with fail
    refine C.out.mono ?_
    rintro z w2 ⟨v2, rfl, o2, n2⟩
    have N2 := Lib.hid n2
    by_cases hy : e1 = 0
    case neg =>
      have q1 : (e1 != 0) = true := by simpa using hy
      have r := frs_no (b := l) (at_ := at_) (by rw [HG.out]; exact hy) acc
      rw [HE1.out] at r
      obtain ⟨rfl, rfl⟩ : E1 = acc ∧ E2 = at_ := by simpa using r
      clear r o2 n2 C
      go_wp2
      refine bodyPost_ret (v := .tuple #[.int .i64 n0, .slice sa m sc, .int .i64 E2, .int .i64 0]) (by simp [results, Tryz.results172, go_sem]) rfl ⟨_, rfl, ?_, HS.out.2.1.trans N2.out, HS.out.2.2⟩
      rw [HM.out]
      exact HS.out.1.nw N2.out
    subst hy
    have hfine := readFr_fine (b := l) (at_ := at_) (by rw [HG.out])
    have hlen := readFr_len (b := l) (at_ := at_) (by rw [HG.out])
    have hyes := frs_yes' HG.out acc
    rw [HG.out] at hfine hlen
    simp only at hfine hlen
    rw [HE1.out] at hyes
    have O2 := Lib.hid (o2 rfl)
    have HY := Lib.hid hyes
    obtain ⟨m2, hm2⟩ : ∃ k, r1.length = k := ⟨_, rfl⟩
    rw [hm2] at hlen
    have hb1 := hfine.2.1
    have hb2 := hfine.2.2.1
    have HM2 := Lib.hid hm2
    have hv2 := O2.out.1
    rw [hm2] at hv2
    obtain ⟨ta, tc, rfl, -⟩ := hv2.len
    have V4 := Lib.hid (HS.out.1.nw N2.out)
    have X4 := Lib.hid hv2.src
    clear hm2 hfine hyes o2 n2 C hv2
    go_wp2_with (at_builtin; refine wpList_append_vec rfl _ _ 38 rfl 80 i0 (.agg #[.int .i64 0, .int .u8 0, .int .i64 0, .int .i64 0, .int .i64 0]) 5 40 Tryz.underlying38 HI.out HZ0.out HZ1.out HZ2.out rfl (by decide) rfl rfl V4.out X4.out ?c1 ?c2 ?c3 ?_)
    case c1 => exact evV_one r1
    case c2 => unfold maxLen; omega
    case c3 => omega
    intro v5 w5 q5 q6 q7
    obtain ⟨ya, yc, rfl, -⟩ := q5.len
    have Q := Lib.hid (And.intro q5 (And.intro q6 q7))
    clear q5 q6 q7
    go_wp2
    go_roundw
    case rel =>
      refine ⟨x1, acc ++ r1, m + m2, rfl, by omega, hb2, HY.out.symm, by rw [List.flatMap_append]; exact Q.out.1, by rw [List.length_append, HM.out, HM2.out], by omega, ?_, fun g hg => ?_⟩
      · exact (HS.out.2.1.trans N2.out).trans' Q.out.2.1 (fun g hg hc => by have := HS.out.2.2 g hc; omega)
      · rcases Q.out.2.2 with h | h
        · exact HS.out.2.2 g (h ▸ hg)
        · have h1 := h g hg
          have h2 := (HS.out.2.1.trans N2.out).size
          omega
    case measure => simp [intOf]; omega
end Go.Proofs.YtphgiobklbpdeaaGreatDoor
