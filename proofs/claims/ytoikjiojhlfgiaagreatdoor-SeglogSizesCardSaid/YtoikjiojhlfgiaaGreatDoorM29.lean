/-
  Texts merged by a program of this claim's: ToldA, ToldB, SizePlain, PiecesPlain, KeepUse.
-/
import Derived.Test.YtoikjiojhlfgiaaGreatDoorM27
import Derived.Test.YtoikjiojhlfgiaaGreatDoorM28
import Derived.Test.YtoikjiojhlfgiaaGreatDoorM12
import Derived.Test.YtoikjiojhlfgiaaGreatDoorM21
import Derived.Test.YtoikjiojhlfgiaaGreatDoorM19
import Derived.Test.YtoikjiojhlfgiaaGreatDoorM22
/-
  The law's 'told', walked: the events that the files of a manifest tell.
-/
namespace Go.Proofs.YtoikjiojhlfgiaaGreatDoor
open Go Go.RowKit Go.Sort
set_option maxRecDepth 100000
set_option maxHeartbeats 1600000

theorem frs_len (b : List UInt8) : ∀ (k : Nat) (at_ : Int) (acc : List Ev), ((b.length : Int) - at_).toNat = k → 0 ≤ at_ → at_ ≤ b.length → ((frs b at_ acc).1.length : Int) ≤ acc.length + (b.length - at_) := by
  intro k
  induction k using Nat.strongRecOn with
  | ind k ih =>
    intro at_ acc hk h0 h1
    by_cases he : (readFr b at_).2.2 = 0
    · have hf := readFr_fine he
      have hl := readFr_len he
      rw [frs_yes he]
      have := ih _ (by omega) (readFr b at_).2.1 (acc ++ (readFr b at_).1) rfl (by omega) hf.2.2.1
      rw [List.length_append] at this
      omega
    · rw [frs_no he]
      simp only
      omega
theorem headR_place {l : List UInt8} (h : (headR l).2.2 = 0) : 0 ≤ (headR l).2.1 ∧ (headR l).2.1 ≤ l.length := by
  unfold headR at h ⊢
  split
  · rename_i hx; rw [if_pos hx] at h; exact absurd h (by simp)
  rename_i h1
  rw [if_neg h1] at h
  split
  · rename_i hx; rw [if_pos hx] at h; exact absurd h (by simp)
  rename_i h2
  rw [if_neg h2] at h
  split
  · rename_i hx; rw [if_pos hx] at h; exact absurd h (by simp)
  rename_i h3
  rw [if_neg h3] at h
  split
  · rename_i hx; rw [if_pos hx] at h; exact absurd h hx
  rename_i h4
  rw [if_neg h4] at h
  have hg := getU_fine (b := l) (at_ := 4) (by rcases Decidable.em ((getU l 4).2.2 = 0) with h | h; exact h; exact absurd h h4)
  split
  · rename_i hx; rw [if_pos hx] at h; exact absurd h (by simp)
  rename_i h5
  rw [if_neg h5] at h
  split
  · rename_i hx; rw [if_pos hx] at h; exact absurd h hx
  · simp only
    omega
theorem scanB_len (b : List UInt8) : (scanB b).2.1.length ≤ b.length := by
  unfold scanB
  split
  · simp
  · rename_i h
    have h0 : (headR b).2.2 = 0 := by rcases Decidable.em ((headR b).2.2 = 0) with h1 | h1; exact h1; exact absurd h1 h
    obtain ⟨a, c⟩ := headR_place h0
    have := frs_len b _ (headR b).2.1 [] rfl a c
    simp only [List.length_nil] at this
    simp only
    omega
theorem listedB_right {b : List UInt8} (h : (listedB b).2 = 0) : rightL (listedB b).1 = true := by
  unfold listedB at h ⊢
  split
  · rename_i hx; rw [if_pos hx] at h; exact absurd h hx
  rename_i h1
  rw [if_neg h1] at h
  unfold listedIn at h ⊢
  split
  · rename_i hx; rw [if_pos hx] at h; exact absurd h (by simp)
  rename_i h2
  rw [if_neg h2] at h
  split
  · rename_i hx; rw [if_pos hx] at h; exact absurd h (by simp)
  rename_i h3
  rw [if_neg h3] at h
  cases hp : pcsFrom (unsealB b).1 (getU (unsealB b).1 4).1 (getU (unsealB b).1 4).2.1 [] with
  | none => rw [hp] at h; exact absurd h (by simp)
  | some r =>
    rw [hp] at h
    simp only at h ⊢
    split
    · rename_i hx; rw [if_pos hx] at h; exact absurd h (by simp)
    rename_i h4
    rw [if_neg h4] at h
    split
    · rename_i hx; exact hx
    · rename_i hx; rw [if_neg hx] at h; exact absurd h (by simp)
theorem read_len {d : Dsk} (ok : d.Ok) (n : Str) : (d.read n).1.length ≤ 16777216 := by
  unfold Dsk.read
  split
  · simp
  · split
    · simp
    · rename_i f hf
      exact bytes_le ok hf
end Go.Proofs.YtoikjiojhlfgiaaGreatDoor

/-
  The law's 'told', walked.
-/
namespace Go.Proofs.YtoikjiojhlfgiaaGreatDoor
open Go Go.RowKit Go.Sort
set_option maxRecDepth 100000
set_option maxHeartbeats 1600000

section
variable {X : Nat → Prop} {w0 w : World} {b : Nat} {d : Dsk}
theorem told_ok (h : HasX X w0 w b d) {r : Option (List Ev)} (hr : toldD d = r) :
    Calls Tryz.prog 58 #[.pointer (some ⟨b, 0, none⟩)] w fun z w' => ∃ v', z = .returned (.tuple #[v', .bool r.isSome]) ∧ OwnE w w' v' (r.getD []) := by
  have H := Lib.hid h
  obtain ⟨⟨mb, e1⟩, hm⟩ : ∃ y, d.read manifestS = y := ⟨_, rfl⟩
  have HM := Lib.hid (h.read manifestS hm)
  have hml := read_len h.ok manifestS
  unfold toldD at hr
  rw [hm] at hr hml
  simp only at hr hml
  clear h hm
  by_cases c1 : e1 = 0
  case neg =>
    have q1 : (e1 != 0) = true := by simpa using c1
    rw [if_pos c1] at hr
    subst hr
    go_enter Tryz.func58, Tryz.ntmps58
    go_wp2_with fail
    refine HM.out.mono ?_
    rintro z w1 ⟨v1, rfl, -, n1, -⟩
    have N1 := Lib.hid n1
    clear n1
    go_wp2
    refine bodyPost_ret (v := .tuple #[.slice none 0 0, .bool false]) (by simp [results, Tryz.results58, go_sem]) rfl ⟨_, rfl, Vec.nil, N1.out, fun g hg => by cases hg⟩
  subst c1
  rw [if_neg (by simp)] at hr
  obtain ⟨⟨ps, e2⟩, hp⟩ : ∃ y, listedB mb = y := ⟨_, rfl⟩
  have hrt := listedB_right (b := mb)
  rw [hp] at hr hrt
  simp only at hr hrt
  have HP := Lib.hid (fun (W : World) (v : Value) (hb : Bs W v mb) => Listed_ok hb (by omega) hp)
  clear hp
  by_cases c2 : e2 = 0
  case neg =>
    have q1 : (e2 != 0) = true := by simpa using c2
    rw [if_pos c2] at hr
    subst hr
    clear hrt
    go_enter Tryz.func58, Tryz.ntmps58
    go_wp2_with fail
    refine HM.out.mono ?_
    rintro z w1 ⟨v1, rfl, o1, n1, -⟩
    obtain ⟨xa, xc, rfl, -⟩ := o1.rd.len
    have O1 := Lib.hid o1.rd
    have N1 := Lib.hid n1
    clear n1 o1
    go_wp2_with fail
    refine (HP.out w1 _ O1.out).mono ?_
    rintro z w2 ⟨v2, rfl, o2⟩
    have N2 := Lib.hid (N1.out.trans o2.2.2.1)
    clear o2
    go_wp2
    refine bodyPost_ret (v := .tuple #[.slice none 0 0, .bool false]) (by simp [results, Tryz.results58, go_sem]) rfl ⟨_, rfl, Vec.nil, N2.out, fun g hg => by cases hg⟩
  subst c2
  rw [if_neg (by simp)] at hr
  have hpl := (rightL_bound (hrt rfl)).2.1
  obtain ⟨np, hnp⟩ : ∃ n, ps.length = n := ⟨_, rfl⟩
  rw [hnp] at hpl
  have HNP := Lib.hid hnp
  have HR := Lib.hid hr
  obtain ⟨i0, hi, hz0, hz1, hz2⟩ := info_parts infoEv
  have HI := Lib.hid hi
  have HZ0 := Lib.hid hz0
  have HZ1 := Lib.hid hz1
  have HZ2 := Lib.hid hz2
  clear hi hz0 hz1 hz2 hr hrt hnp
  go_enter Tryz.func58, Tryz.ntmps58
  go_wp2_with fail
  refine HM.out.mono ?_
  rintro z w1 ⟨v1, rfl, o1, n1, -⟩
  obtain ⟨xa, xc, rfl, -⟩ := o1.rd.len
  have O1 := Lib.hid o1.rd
  have N1 := Lib.hid n1
  clear n1 o1
  go_wp2_with fail
  refine (HP.out w1 _ O1.out).mono ?_
  rintro z w2 ⟨v2, rfl, o2⟩
  have N2 := Lib.hid (N1.out.trans o2.2.2.1)
  have P2 := Lib.hid o2.pcs
  obtain ⟨pa, pc, rfl, hpc1, hpc2, -⟩ := o2.pcs.elem
  rw [HNP.out] at hpc1 P2 ⊢
  clear o2 hpc2
  go_wp2
  go_loopw [7, 8] (fun s i wr => ∃ (k m : Nat) (out : List Ev), k ≤ np ∧ i = .int .i64 k ∧ toldFrom d (ps.drop k) out = r ∧ Vec 5 wr s m (out.flatMap evV) ∧ out.length = m ∧ m ≤ 16777216 * k ∧ Nw w wr ∧ Nw w2 wr ∧ ∀ g, s.ownBlock = some g → w2.heap.size ≤ g) (fun _ i _ => np - (intOf i).toNat)
  case atStart => exact ⟨0, 0, [], Nat.zero_le _, rfl, HR.out, Vec.nil, rfl, by omega, N2.out, Nw.refl _, fun g hg => by cases hg⟩
  case round =>
    obtain ⟨k, m, out, hk, rfl, htf, hs, hm, hmk, hw, hw2, hfr⟩ := hrel
    obtain ⟨sa, sc, rfl, -⟩ := hs.len
    have HS := Lib.hid (And.intro hs (And.intro hw (And.intro hw2 hfr)))
    have HTF := Lib.hid htf
    have HML := Lib.hid hm
    clear hs hw hw2 hfr htf hm
    by_cases hlt : k < np
    case neg =>
      obtain rfl : k = np := by omega
      have rr := HTF.out
      rw [List.drop_of_length_le (by rw [HNP.out]; exact Nat.le_refl _)] at rr
      unfold toldFrom at rr
      subst rr
      go_wp2
      refine bodyPost_ret (v := .tuple #[.slice sa m sc, .bool true]) (by simp [results, Tryz.results58, go_sem]) rfl ⟨_, rfl, ?_, HS.out.2.1, fun g hg => Nat.le_trans N2.out.size (HS.out.2.2.2 g hg)⟩
      simp only [Option.getD_some]
      rw [HML.out]; exact HS.out.1
    have hkl : k < ps.length := by rw [HNP.out]; exact hlt
    obtain ⟨g, o, hpe, hg, x0, x1, x2, -⟩ := pcs_at P2.out HNP.out hlt
    subst hpe
    have x0 := HS.out.2.2.1.cell x0
    have x1 := HS.out.2.2.1.cell x1
    have x2 := HS.out.2.2.1.cell x2
    have hg := Nat.lt_of_lt_of_le hg HS.out.2.2.1.size
    have rr := HTF.out
    rw [List.drop_eq_getElem_cons hkl] at rr
    conv at rr => lhs; unfold toldFrom
    have hlast : (ps.drop (k + 1) ≠ []) ↔ k + 1 < np := by
      rw [← HNP.out, ne_eq, List.drop_eq_nil_iff]; omega
    generalize (ps[k] : Pc) = q at x0 x1 x2 rr
    obtain ⟨⟨bb, e3⟩, hb⟩ : ∃ y, d.read q.name = y := ⟨_, rfl⟩
    have HB := Lib.hid ((H.out.nw HS.out.2.1).read q.name hb)
    have hbl := read_len H.out.ok q.name
    rw [hb] at rr hbl
    simp only at rr hbl
    have HTF2 := Lib.hid rr
    clear rr hb HTF
    by_cases c3 : e3 = 0
    case neg =>
      have q1 : (e3 != 0) = true := by simpa using c3
      have rr := HTF2.out
      rw [if_pos c3] at rr
      subst rr
      go_wp2_with fail
      refine HB.out.mono ?_
      rintro z w3 ⟨v3, rfl, -, n3, -⟩
      have N3 := Lib.hid (HS.out.2.1.trans n3)
      clear n3
      go_wp2
      refine bodyPost_ret (v := .tuple #[.slice none 0 0, .bool false]) (by simp [results, Tryz.results58, go_sem]) rfl ⟨_, rfl, Vec.nil, N3.out, fun g hg => by cases hg⟩
    subst c3
    have rr := HTF2.out
    rw [if_neg (by simp)] at rr
    obtain ⟨⟨n4, es, g4, e4⟩, hsc⟩ : ∃ y, scanB bb = y := ⟨_, rfl⟩
    have hel := scanB_len bb
    rw [hsc] at rr hel
    simp only at rr hel
    have HSC := Lib.hid (fun (W : World) (v : Value) (hb : Bs W v bb) => SScan_ok hb (by omega) hsc)
    obtain ⟨nb, hnb⟩ : ∃ n, bb.length = n := ⟨_, rfl⟩
    obtain ⟨ne, hne⟩ : ∃ n, es.length = n := ⟨_, rfl⟩
    rw [hnb, hne] at rr
    rw [hnb] at hbl
    rw [hnb, hne] at hel
    rw [HML.out] at rr
    have HNB := Lib.hid hnb
    have HNE := Lib.hid hne
    have HTF3 := Lib.hid rr
    clear rr hsc HTF2 hnb hne
    go_wp2_with fail
    refine HB.out.mono ?_
    rintro z w3 ⟨v3, rfl, o3, n3, -⟩
    have B3 := Lib.hid o3.rd
    have N3 := Lib.hid n3
    have o3r := o3.rd
    rw [← HNB.out] at hbl
    obtain ⟨ba, bc, rfl, -⟩ := o3r.len
    rw [HNB.out] at B3 hbl ⊢
    clear o3 o3r n3
    go_wp2_with fail
    refine (HSC.out w3 _ B3.out).mono ?_
    rintro z w4 ⟨v4, rfl, o4⟩
    obtain ⟨ya, yc, rfl, -⟩ := o4.1.len
    rw [HNE.out] at o4 ⊢
    have O4 := Lib.hid o4
    have N4 := Lib.hid (N3.out.trans o4.2.1)
    have x0 := N4.out.cell x0
    have x1 := N4.out.cell x1
    have x2 := N4.out.cell x2
    have hg := Nat.lt_of_lt_of_le hg N4.out.size
    clear o4
    by_cases d1 : e4 = 0
    case neg =>
      have q1 : (e4 != 0) = true := by simpa using d1
      have rr := HTF3.out
      rw [if_pos (.inl d1)] at rr
      subst rr
      go_wp2
      refine bodyPost_ret (v := .tuple #[.slice none 0 0, .bool false]) (by simp [results, Tryz.results58, go_sem]) rfl ⟨_, rfl, Vec.nil, HS.out.2.1.trans N4.out, fun g hg => by cases hg⟩
    subst d1
    by_cases d2 : n4 = q.first
    case neg =>
      have q1 : (n4 != q.first) = true := by simpa using d2
      have rr := HTF3.out
      rw [if_pos (.inr (.inl d2))] at rr
      subst rr
      go_wp2
      refine bodyPost_ret (v := .tuple #[.slice none 0 0, .bool false]) (by simp [results, Tryz.results58, go_sem]) rfl ⟨_, rfl, Vec.nil, HS.out.2.1.trans N4.out, fun g hg => by cases hg⟩
    have q2 : (n4 != q.first) = false := by simpa using d2
    by_cases d3 : (m : Int) = n4
    case neg =>
      have q1 : ((m : Int) != n4) = true := by simpa using d3
      have rr := HTF3.out
      rw [if_pos (.inr (.inr (.inl d3)))] at rr
      subst rr
      go_wp2
      refine bodyPost_ret (v := .tuple #[.slice none 0 0, .bool false]) (by simp [results, Tryz.results58, go_sem]) rfl ⟨_, rfl, Vec.nil, HS.out.2.1.trans N4.out, fun g hg => by cases hg⟩
    have q3 : ((m : Int) != n4) = false := by simpa using d3
    have hsub : IntKind.i64.wrap ((np : Int) - 1) = (np : Int) - 1 := IntWalk.i64_in _ (by omega)
    by_cases d4 : k + 1 < np
    case pos =>
      have q4 : decide ((k : Int) < (np : Int) - 1) = true := by simp; omega
      by_cases d5 : g4 = (nb : Int)
      case neg =>
        have q5 : (g4 != (nb : Int)) = true := by simpa using d5
        have rr := HTF3.out
        rw [if_pos (.inr (.inr (.inr ⟨hlast.2 d4, .inl d5⟩)))] at rr
        subst rr
        go_wp2
        refine bodyPost_ret (v := .tuple #[.slice none 0 0, .bool false]) (by simp [results, Tryz.results58, go_sem]) rfl ⟨_, rfl, Vec.nil, HS.out.2.1.trans N4.out, fun g hg => by cases hg⟩
      have q5 : (g4 != (nb : Int)) = false := by simpa using d5
      by_cases d6 : (ne : Int) = q.count
      case neg =>
        have q6 : ((ne : Int) != q.count) = true := by simpa using d6
        have rr := HTF3.out
        rw [if_pos (.inr (.inr (.inr ⟨hlast.2 d4, .inr d6⟩)))] at rr
        subst rr
        go_wp2
        refine bodyPost_ret (v := .tuple #[.slice none 0 0, .bool false]) (by simp [results, Tryz.results58, go_sem]) rfl ⟨_, rfl, Vec.nil, HS.out.2.1.trans N4.out, fun g hg => by cases hg⟩
      have q6 : ((ne : Int) != q.count) = false := by simpa using d6
      have hbnd : m + ne ≤ 16777216 * (k + 1) := by omega
      have V5 := Lib.hid (HS.out.1.nw N4.out)
      have X5 : Hid (SrcV 5 w4 (.slice ya ne yc) ne (es.flatMap evV)) := Lib.hid (by have := O4.out.1.src; rwa [HNE.out] at this)
      have rr := HTF3.out
      rw [if_neg (by rintro (h | h | h | ⟨-, h | h⟩); exact h rfl; exact h d2; exact h d3; exact h d5; exact h d6)] at rr
      have HTF4 := Lib.hid rr
      clear rr HTF3
      go_wp2_with (at_builtin; refine wpList_append_vec rfl _ _ 33 rfl 55 i0 (.agg #[.int .i64 0, .int .u8 0, .int .i64 0, .int .i64 0, .int .i64 0]) 5 40 Tryz.underlying33 HI.out HZ0.out HZ1.out HZ2.out rfl (by decide) rfl rfl V5.out X5.out ?c1 ?c2 ?c3 ?_)
      case c1 => exact evV_one es
      case c2 => unfold maxLen; omega
      case c3 => omega
      intro v5 w5 q5 q6 q7
      obtain ⟨ta, tc, rfl, -⟩ := q5.len
      have Q := Lib.hid (And.intro q5 (And.intro q6 q7))
      clear q5 q6 q7
      go_wp2
      go_roundw
      case rel =>
        have h0 := N2.out.size
        have hnw2 : Nw w2 w5 := (HS.out.2.2.1.trans N4.out).trans' Q.out.2.1 (fun g hg hc => by have := HS.out.2.2.2 g hc; omega)
        refine ⟨k + 1, m + ne, out ++ es, by omega, by go_num, HTF4.out, by rw [List.flatMap_append]; exact Q.out.1, by rw [List.length_append, HML.out, HNE.out], hbnd, N2.out.trans hnw2, hnw2, fun g hg => ?_⟩
        rcases Q.out.2.2 with h | h
        · exact HS.out.2.2.2 g (h ▸ hg)
        · exact Nat.le_trans (HS.out.2.2.1.trans N4.out).size (h g hg)
      case measure => simp [intOf]; omega
    case neg =>
      have q4 : decide ((k : Int) < (np : Int) - 1) = false := by simp; omega
      have hbnd : m + ne ≤ 16777216 * (k + 1) := by omega
      have V5 := Lib.hid (HS.out.1.nw N4.out)
      have X5 : Hid (SrcV 5 w4 (.slice ya ne yc) ne (es.flatMap evV)) := Lib.hid (by have := O4.out.1.src; rwa [HNE.out] at this)
      have rr := HTF3.out
      rw [if_neg (by rintro (h | h | h | ⟨h, -⟩); exact h rfl; exact h d2; exact h d3; exact d4 (hlast.1 h))] at rr
      have HTF4 := Lib.hid rr
      clear rr HTF3
      go_wp2_with (at_builtin; refine wpList_append_vec rfl _ _ 33 rfl 55 i0 (.agg #[.int .i64 0, .int .u8 0, .int .i64 0, .int .i64 0, .int .i64 0]) 5 40 Tryz.underlying33 HI.out HZ0.out HZ1.out HZ2.out rfl (by decide) rfl rfl V5.out X5.out ?c1 ?c2 ?c3 ?_)
      case c1 => exact evV_one es
      case c2 => unfold maxLen; omega
      case c3 => omega
      intro v5 w5 q5 q6 q7
      obtain ⟨ta, tc, rfl, -⟩ := q5.len
      have Q := Lib.hid (And.intro q5 (And.intro q6 q7))
      clear q5 q6 q7
      go_wp2
      go_roundw
      case rel =>
        have h0 := N2.out.size
        have hnw2 : Nw w2 w5 := (HS.out.2.2.1.trans N4.out).trans' Q.out.2.1 (fun g hg hc => by have := HS.out.2.2.2 g hc; omega)
        refine ⟨k + 1, m + ne, out ++ es, by omega, by go_num, HTF4.out, by rw [List.flatMap_append]; exact Q.out.1, by rw [List.length_append, HML.out, HNE.out], hbnd, N2.out.trans hnw2, hnw2, fun g hg => ?_⟩
        rcases Q.out.2.2 with h | h
        · exact HS.out.2.2.2 g (h ▸ hg)
        · exact Nat.le_trans (HS.out.2.2.1.trans N4.out).size (h g hg)
      case measure => simp [intOf]; omega
end
end Go.Proofs.YtoikjiojhlfgiaaGreatDoor

/-
  When a piece is sealed, in plain words: the open piece's file has as many bytes as the log says.
-/
namespace Go.Proofs.YtoikjiojhlfgiaaGreatDoor
open Go
structure Sk (size : Int) (c : Nat) (d : Dsk) (L : Lg) (p : Pc) (last : Nat) : Prop where
  inv : ∃ A, LInv d L A p ∧ A.length ≤ c
  most : d.most = 1048576
  used : usedF d.files ≤ 40 + c * 7466
  n : L.n ≤ 30 * c
  bytes : L.bytes ≤ 18 + c * 1239
  sz : L.size = size
  file : (fileOf d.files p.name).bytes.length = L.bytes
  less : p.first < L.n → (L.bytes : Int) < size + last
  last_ : last ≤ L.bytes
  empty : L.n ≤ p.first → L.bytes ≤ 18
theorem Sk.ak {size : Int} {c : Nat} {d : Dsk} {L : Lg} {p : Pc} {last : Nat} (h : Sk size c d L p last) : Ak size c d L := by
  obtain ⟨A, h1, h2⟩ := h.inv
  exact ⟨⟨A, p, h1, h2⟩, h.most, h.used, h.n, h.bytes, h.sz⟩
theorem Sk.new {size : Int} (hs : 64 ≤ size) (hs2 : size ≤ 16777216) : ∃ d, createD (newDsk 1048576) size = (d, 0) ∧ Sk size 0 d (newLg size) ⟨segName 0, 0, 0, false⟩ 0 := by
  obtain ⟨F, h1, h2, h3, h4⟩ := create_calm' 1048576 (by omega) hs hs2
  have hb : (headB 0).length ≤ 18 := headB_len (n := 0) (by omega)
  exact ⟨_, h1, ⟨_, h2, by simp⟩, rfl, by simpa using h3, by simp [newLg], by simpa [newLg] using hb, rfl, by simp only [h4]; simp [fileOf, getF, newLg], by simp [newLg], by omega, fun _ => by simpa [newLg] using hb⟩
section
variable {size : Int} {c : Nat} {d : Dsk} {L : Lg} {p : Pc} {last : Nat}
/-- The frame goes into the open piece. -/
structure Stay (d : Dsk) (L : Lg) (p : Pc) (es : List Ev) (d' : Dsk) (L' : Lg) : Prop where
  not : ¬ (p.first < L.n ∧ L.size ≤ L.bytes)
  l : L'.l = L.l
  file : (fileOf d'.files p.name).bytes.length = L.bytes + (frmB es).length
/-- The open piece is sealed, and another one has the frame. -/
structure More (d : Dsk) (L : Lg) (p : Pc) (es : List Ev) (d' : Dsk) (L' : Lg) (p' : Pc) : Prop where
  sealed_ : p.first < L.n ∧ L.size ≤ L.bytes
  len : L'.l.length = L.l.length + 1
  other : p'.name ≠ p.name
  first : p'.first = L.n
  file : (fileOf d'.files p.name).bytes.length = L.bytes
  synced : (fileOf d'.files p.name).synced = L.bytes
  file' : (fileOf d'.files p'.name).bytes.length = (headB L.n).length + (frmB es).length
theorem frmB_pos (es : List Ev) : 0 < (frmB es).length := by
  have : frmB es = uintB (bodyB es).length ++ sealB sumB (bodyB es) := rfl
  rw [this, List.length_append]
  have := uintB_pos (bodyB es).length
  omega
theorem Sk.add (h : Sk size c d L p last) (hc : c < 60) (hs : 64 ≤ size) {es : List Ev} (h1 : es.length ≠ 0) (h2 : es.length ≤ 30) : ∃ d' L' p', L.add d es = ⟨d', L', 0⟩ ∧ Sk size (c + 1) d' L' p' (frmB es).length ∧ L'.n = L.n + es.length ∧
    ((p' = p ∧ Stay d L p es d' L') ∨ More d L p es d' L' p') := by
  obtain ⟨⟨A, hi, hA⟩, hm, hu, hn, hb, hsz, hfl, hle, hla, hem⟩ := h
  have ha0 := hi.acked0
  have ha1 := hi.acked1
  have hf := frm_le h2
  have hpos := frmB_pos es
  by_cases hst : p.first < L.n ∧ L.size ≤ L.bytes
  · obtain ⟨F, a1, a2, a3, a4⟩ := another_calm hi (by omega) hst.1 (by omega) (by rw [hm]; omega)
    obtain ⟨p1, p2, p3⟩ := put_calm a2 es (by simp only; rw [hm]; omega)
    have hh : (headB L.n).length ≤ 18 := headB_len (n := L.n) (by omega)
    have e := add_more hi h1 (by omega) hst (by rw [a1])
    rw [a1] at e
    have hne : segName L.n ≠ p.name := fun hc => hi.no_seg hst.1 (hc ▸ hi.mem)
    have hpm : ¬ p.name = manifestS := (okPiece_name hi.right.name).2.1
    have hsm : ¬ segName L.n = manifestS := (okPiece_name (segName_ok (n := L.n) (by omega))).2.1
    have f0 := a4 (segName L.n)
    rw [if_neg hsm, if_pos rfl] at f0
    have f1 := a4 p.name
    rw [if_neg hpm, if_neg (Ne.symm hne), if_pos rfl] at f1
    have k1 := fileOf_setF F (segName L.n) p.name ⟨(fileOf F (segName L.n)).bytes ++ frmB es, (fileOf F (segName L.n)).synced⟩
    rw [if_neg hne, f1] at k1
    have k2 := fileOf_setF F (segName L.n) (segName L.n) ⟨(fileOf F (segName L.n)).bytes ++ frmB es, (fileOf F (segName L.n)).synced⟩
    rw [if_pos rfl, f0] at k2
    simp only at k2
    refine ⟨_, _, _, e.trans p1, ⟨⟨_, p2, ?_⟩, hm, ?_, ?_, ?_, hsz, ?_, ?_, ?_, ?_⟩, rfl, .inr ⟨hst, ?_, hne, rfl, ?_, ?_, ?_⟩⟩
    · simp; omega
    · rw [p3]; simp only; omega
    · simp only; omega
    · simp only; omega
    · simp only [f0]; rw [k2]; simp
    · intro _; simp only; omega
    · simp only; omega
    · intro hc; simp only at hc; omega
    · simp only; rw [morePcs_eq hi, hi.l]; simp
    · simp only; rw [k1]; exact hfl
    · simp only; rw [k1]; exact hfl
    · simp only [f0]; rw [k2]; simp
  · obtain ⟨p1, p2, p3⟩ := put_calm hi es (by rw [hm]; omega)
    have k2 := fileOf_setF d.files p.name p.name ⟨(fileOf d.files p.name).bytes ++ frmB es, (fileOf d.files p.name).synced⟩
    rw [if_pos rfl] at k2
    have kl : (fileOf (setF d.files p.name ⟨(fileOf d.files p.name).bytes ++ frmB es, (fileOf d.files p.name).synced⟩) p.name).bytes.length = L.bytes + (frmB es).length := by
      rw [k2]; simp [hfl]
    refine ⟨_, _, _, (add_stay hi h1 (by omega) hst).trans p1, ⟨⟨_, p2, by omega⟩, hm, ?_, ?_, ?_, hsz, kl, ?_, ?_, ?_⟩, rfl, .inl ⟨rfl, hst, rfl, kl⟩⟩
    · simp only; rw [p3]; omega
    · simp only; omega
    · simp only; omega
    · intro _; simp only
      by_cases hp : p.first < L.n
      · have : ¬ L.size ≤ L.bytes := fun hc => hst ⟨hp, hc⟩
        omega
      · have := hem (by omega)
        omega
    · simp only; omega
    · intro hc; simp only at hc; omega
end
end Go.Proofs.YtoikjiojhlfgiaaGreatDoor

/-
  A log's pieces and its disk's files, in plain words; the whole of what its files tell; frames of few events on a calm disk.
-/
namespace Go.Proofs.YtoikjiojhlfgiaaGreatDoor
open Go

/-! ### The open piece has events -/
structure Pk (size : Int) (c : Nat) (d : Dsk) (L : Lg) : Prop where
  sk : ∃ p last, Sk size c d L p last ∧ (L.n = 0 ∨ p.first < L.n)
theorem Pk.new {size : Int} (hs : 64 ≤ size) (hs2 : size ≤ 16777216) : ∃ d, createD (newDsk 1048576) size = (d, 0) ∧ Pk size 0 d (newLg size) := by
  obtain ⟨d, h1, h2⟩ := Sk.new hs hs2
  exact ⟨d, h1, _, _, h2, .inl rfl⟩
section
variable {size : Int} {c : Nat} {d : Dsk} {L : Lg}
theorem Pk.add (h : Pk size c d L) (hc : c < 60) (hs : 64 ≤ size) {es : List Ev} (h1 : es.length ≠ 0) (h2 : es.length ≤ 30) : ∃ d' L', L.add d es = ⟨d', L', 0⟩ ∧ Pk size (c + 1) d' L' ∧ L'.n = L.n + es.length := by
  obtain ⟨p, last, h, hp⟩ := h
  obtain ⟨d', L', p', a1, a2, a3, a4⟩ := h.add hc hs h1 h2
  obtain ⟨A, hi, -⟩ := h.inv
  have h3 := hi.acked0
  have h4 := hi.acked1
  refine ⟨d', L', a1, ⟨p', _, a2, .inr ?_⟩, a3⟩
  rcases a4 with ⟨rfl, -⟩ | hm
  · rw [a3]; omega
  · rw [hm.first, a3]; omega
theorem Pk.ak (h : Pk size c d L) : Ak size c d L := by
  obtain ⟨p, last, h, -⟩ := h
  exact h.ak
/-- What the statement asks of a log and its disk. -/
theorem Pk.facts (h : Pk size c d L) : rightL L.l = true ∧ d.list.Perm (manifestS :: L.l.map Pc.name) ∧ d.read manifestS = (manifestB L.l, 0) ∧ (L.n = 0 ∨ (lastP L.l).first < L.n) ∧ (lastP L.l).first ≤ L.acked := by
  obtain ⟨p, last, h, hp⟩ := h
  obtain ⟨A, hi, -⟩ := h.inv
  have hl := hi.open_
  refine ⟨by rw [hi.l]; exact (rightL_iff A p).2 hi.right, ?_, read_of hi.calm.up (congrArg DFile.bytes hi.man) (manifestB_ne _), by rw [hl]; exact hp, by rw [hl]; exact hi.acked0⟩
  exact (List.mergeSort_perm _ _).trans hi.names
end

/-! ### All is told -/
theorem told_full {d : Dsk} {L : Lg} {all : List Ev} (ok : d.Ok) (hd : d.down = false) (h : KInv Whole d.files L all) : toldD d = some all := by
  obtain ⟨A, p, old, fs, m, h⟩ := h
  have hR := (rightL_iff A p).2 h.right
  rw [← h.l] at hR
  have hr := read_of hd (congrArg DFile.bytes h.man) (manifestB_ne _)
  have hr2 := read_of hd (congrArg DFile.bytes h.open_) (by
    have := headB_ne p.first.toNat
    intro hc
    exact this (List.append_eq_nil_iff.1 hc).1)
  have hb := right_bound h.right p (by simp)
  have hsc := scanB_at (n := p.first.toNat) (by omega) fs [] h.fr (fun a' => by rw [List.append_nil, readFr_end]; simp)
  rw [List.append_nil] at hsc
  have hsc : scanB (segB p.first.toNat fs) = _ := hsc
  have hfi := h.first
  unfold toldD
  rw [hr]
  simp only
  rw [listedB_at hR, if_neg (by simp), if_neg (by simp)]
  simp only
  rw [h.l, told_sealed hd (fun n => ⟨(fileOf d.files n).bytes.length, by simp, ok.le n⟩) p A [] 0 [] old h.right.sealed_ h.old_ rfl]
  unfold toldFrom
  rw [hr2]
  simp only
  rw [hsc]
  simp only
  rw [if_neg (by simp), if_neg (by
    rintro (h | h | h | ⟨h, -⟩)
    · exact h rfl
    · exact h (by omega)
    · exact h (by simp; omega)
    · exact h rfl)]
  unfold toldFrom
  rw [h.all_, List.nil_append]

/-! ### Frames of at most nine events -/
structure Ck (size : Int) (c : Nat) (d : Dsk) (L : Lg) (all : List Ev) : Prop where
  inv : ∃ A p, LInv d L A p
  kin : KInv Whole d.files L all
  most : d.most = 1048576
  used : usedF d.files ≤ 40 + c * 6605
  n : L.n ≤ 9 * c
  bytes : L.bytes ≤ 18 + c * 378
  size : L.size = size
theorem frm_le9 {es : List Ev} (h : es.length ≤ 9) : (frmB es).length ≤ 378 := by
  have := frameB_len (sum := sumB) (fun b => sumB_len b) es (by omega)
  have e : (frmB es).length = (frameB sumB es).length := rfl
  omega
theorem Ck.new {size : Int} (hs : 64 ≤ size) (hs2 : size ≤ 16777216) : ∃ d, createD (newDsk 1048576) size = (d, 0) ∧ Ck size 0 d (newLg size) [] := by
  obtain ⟨F, h1, h2, h3, h4⟩ := create_calm' 1048576 (by omega) hs hs2
  have hb : (headB 0).length ≤ 18 := headB_len (n := 0) (by omega)
  exact ⟨_, h1, ⟨⟨_, _, h2⟩, KInv.new 1048576 (by omega) hs hs2 h1, rfl, by simpa using h3, by simp [newLg], by simpa [newLg] using hb, rfl⟩⟩
section
variable {size : Int} {c : Nat} {d : Dsk} {L : Lg} {all : List Ev}
theorem Ck.add (h : Ck size c d L all) (hc : c < 120) {es : List Ev} (h1 : es.length ≠ 0) (h2 : es.length ≤ 9) (h3 : ∀ e ∈ es, e.Ok) :
    (∃ d' L', L.add d es = ⟨d', L', 0⟩ ∧ Ck size (c + 1) d' L' (all ++ es)) ∨ ∃ d' L', L.add d es = ⟨d', L', 5⟩ ∧ L'.l.length = 100 ∧ L'.l.length ≤ 1000 := by
  obtain ⟨⟨A, p, hi⟩, hk, hm, hu, hn, hb, hs⟩ := h
  have hf := frm_le9 h2
  have hK := hk.add (d := d) seals_whole h3
  by_cases hst : p.first < L.n ∧ L.size ≤ L.bytes
  · by_cases h100 : A.length + 1 < 100
    · obtain ⟨F, a1, a2, a3, -⟩ := another_calm hi h100 hst.1 (by omega) (by rw [hm]; omega)
      obtain ⟨p1, p2, p3⟩ := put_calm a2 es (by simp only; rw [hm]; omega)
      have hh : (headB L.n).length ≤ 18 := headB_len (n := L.n) (by omega)
      have e := add_more hi h1 (by omega) hst (by rw [a1])
      rw [a1] at e
      have e := e.trans p1
      rw [e, if_pos rfl] at hK
      refine .inl ⟨_, _, e, ⟨⟨_, _, p2⟩, hK, hm, ?_, ?_, ?_, hs⟩⟩
      · rw [p3]; simp only; omega
      · simp only; omega
      · simp only; omega
    · have hl : L.l.length = A.length + 1 := by rw [hi.l]; simp
      have hr2 := hi.right.few
      have e : L.add d es = ⟨d, { L with over := true }, 5⟩ := by
        unfold Lg.add Lg.roomed Lg.another
        rw [hi.over, hi.open_, if_pos hst, if_pos (show 100 ≤ L.l.length by omega), if_neg (by simp), if_neg h1, if_neg (by omega), if_pos (by simp)]
      exact .inr ⟨_, _, e, by simp only; omega, by simp only; omega⟩
  · obtain ⟨p1, p2, p3⟩ := put_calm hi es (by rw [hm]; omega)
    have e := (add_stay hi h1 (by omega) hst).trans p1
    rw [e, if_pos rfl] at hK
    refine .inl ⟨_, _, e, ⟨⟨_, _, p2⟩, hK, hm, ?_, ?_, ?_, hs⟩⟩
    · simp only; rw [p3]; omega
    · simp only; omega
    · simp only; omega
theorem Ck.facts (h : Ck size c d L all) (hc : c ≤ 120) : L.l ≠ [] ∧ L.l.length ≤ 1000 ∧ L.n ≤ 1080 ∧ L.bytes ≤ 45378 ∧ 0 ≤ (lastP L.l).first ∧ L.over = false ∧ d.down = false := by
  obtain ⟨⟨A, p, hi⟩, hk, hm, hu, hn, hb, hs⟩ := h
  have hl := hi.open_
  have hf := hi.right.few
  exact ⟨by rw [hi.l]; simp, by rw [hi.l]; simp; omega, by omega, by omega, by rw [hl]; exact hi.firsts.1, hi.over, hi.calm.up⟩
end

/-! ### A call on a log that is not over never tells that it is -/
theorem op_code (d : Dsk) (may : Int) (act : List (Str × DFile) → List (Str × DFile)) (h : may ≠ 16) : (d.op may act).2 ≠ 16 := by
  unfold Dsk.op
  split
  · simp
  · split
    · exact h
    · split <;> simp
theorem sync_code (d : Dsk) (n : Str) : (d.sync n).2 ≠ 16 := op_code _ _ _ (by unfold Dsk.there; split <;> decide)
theorem append_code (d : Dsk) (n : Str) (b : List UInt8) : (d.append n b).2 ≠ 16 := op_code _ _ _ (by unfold Dsk.mayAppend; (repeat' split) <;> decide)
theorem gone_code (d : Dsk) (n : Str) : (d.gone n).2 ≠ 16 := by
  have : (d.remove n).2 ≠ 16 := op_code _ _ _ (by unfold Dsk.there; split <;> decide)
  unfold Dsk.gone
  split
  · simp
  · exact this
theorem fresh_code (d : Dsk) (n : Str) (b : List UInt8) : (d.fresh n b).2 ≠ 16 := by
  unfold Dsk.fresh andThen
  repeat' split
  · exact sync_code _ _
  · exact append_code _ _ _
  · exact gone_code _ _
theorem install_code (d : Dsk) (l : List Pc) : (d.install l).2 ≠ 16 := by
  unfold Dsk.install andThen
  repeat' split
  · exact op_code _ _ _ (by unfold Dsk.there; (repeat' split) <;> decide)
  · exact fresh_code _ _ _
  · simp
theorem add_code {d : Dsk} {L : Lg} (h : L.over = false) (es : List Ev) : (L.add d es).e ≠ 16 := by
  unfold Lg.add
  rw [h, if_neg (by simp)]
  have hr : (L.roomed d).e ≠ 16 := by
    unfold Lg.roomed Lg.another
    repeat' split
    · simp
    · exact sync_code _ _
    · exact fresh_code _ _ _
    · exact install_code _ _
    · simp
    · simp
  repeat' split
  · simp
  · simp
  · exact hr
  · unfold Lg.put
    split
    · exact append_code _ _ _
    · simp
end Go.Proofs.YtoikjiojhlfgiaaGreatDoor

/-
  A log on any disk behind a frame, whether it is over or not, in plain words.
-/
namespace Go.Proofs.YtoikjiojhlfgiaaGreatDoor
open Go
theorem Bk.addAny {z : Int} {c : Nat} {d : Dsk} {L : Lg} {es : List Ev} (h : Bk z c L) (hc : c ≤ 1000000) (h1 : es.length ≠ 0) (h2 : es.length ≤ 30) : Bk z (c + 1) (L.add d es).L ∧ (((L.add d es).e == 16) = L.over) ∧ ((L.add d es).e = 0 → L.over = false) := by
  cases ho : L.over
  case true =>
    have e : L.add d es = ⟨d, L, 16⟩ := by unfold Lg.add; rw [if_pos ho]
    rw [e]
    exact ⟨h.mono (by omega), rfl, fun h => absurd h (by simp)⟩
  case false =>
    refine ⟨(h.add hc ho h1 h2).1, ?_, fun _ => by first | rfl | trivial⟩
    have := add_code (d := d) ho es
    simpa using this
theorem Bk.syncAny {z : Int} {c : Nat} {d : Dsk} {L : Lg} (h : Bk z c L) : Bk z c (L.sync d).L := by
  unfold Lg.sync
  split
  · exact h
  · split
    · exact h.same rfl rfl rfl rfl
    · exact h.same rfl rfl rfl rfl
theorem armed_files (d : Dsk) (n : Int) : (d.armed n).files = d.files := by
  unfold Dsk.armed
  split <;> rfl
theorem KInv.okAll {Wh : Pc → List UInt8 → List Ev → Prop} {F : List (Str × DFile)} {L : Lg} {all : List Ev} (_h : KInv Wh F L all) : True := trivial
end Go.Proofs.YtoikjiojhlfgiaaGreatDoor
