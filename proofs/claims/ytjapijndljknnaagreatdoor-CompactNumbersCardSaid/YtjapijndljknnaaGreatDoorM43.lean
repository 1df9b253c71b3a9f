/-
  Texts merged by a program of this claim's: Grown, Log7, CompTwo, RecUse2, StrayPlain.
-/
import Derived.Test.YtjapijndljknnaaGreatDoorM39
import Derived.Test.YtjapijndljknnaaGreatDoorM42
import Derived.Test.YtjapijndljknnaaGreatDoorM34
import Derived.Test.YtjapijndljknnaaGreatDoorM31
/-
  amanuensislaw07.grown, walked.
-/
namespace Go.Proofs.YtjapijndljknnaaGreatDoor
open Go Go.RowKit Go.Sort
set_option maxRecDepth 100000
set_option maxHeartbeats 1600000
/-- What 'grown' hands back. -/
structure Grown (w w' : World) (mo : Int) (b p : Nat) (v : Value) (d : Dsk) (L : Lg) (all : List Ev) (c : Nat) (ok : Bool) : Prop where
  hl : HasL (fun j => v.ownBlock = some j) w w' p b d L
  vec : Vec 5 w' v all.length (all.flatMap evV)
  evs : ∀ e ∈ all, e.Ok
  new : ∀ g, v.ownBlock = some g → w.heap.size ≤ g
  kin : KInv (WholeU unpackB) d.files L all
  rk : Rk 64 c L
  few : c ≤ 40
  len : all.length ≤ 30 * c
  up : d.Up
  most : d.most = mo
  big : mo = 1048576 → ok = true ∧ Bt 64 c d L all ∧ Lz c d L
  ov : ok = true → L.over = false
theorem grown_ok (w : World) (ht : Tab w) (v0 : Value) (fs : List (List Ev)) (mo : Int) (hm0 : 40 ≤ mo) (hm1 : mo ≤ 16777216) (h0 : RdK 1 (isEvs w) w v0 fs) :
    Calls Tryz.prog 36 #[.int .i64 mo, v0] w fun e w' => ∃ b p v d L all c ok, e = .returned (.tuple #[.pointer (some ⟨p, 0, none⟩), v, .bool ok]) ∧ Grown w w' mo b p v d L all c ok ∧ ∀ x ∈ all, ∃ f ∈ fs, x ∈ f := by
  have HT := Lib.hid ht
  have HF := Lib.hid h0
  obtain ⟨a0, c0, rfl, -⟩ := h0.len
  clear ht h0
  obtain ⟨nf, hnf⟩ : ∃ n, fs.length = n := ⟨_, rfl⟩
  rw [hnf] at HF ⊢
  have HNF := Lib.hid hnf
  clear hnf
  obtain ⟨F0, cr, cm⟩ := create_calm' mo hm0 (size := 64) (by omega) (by omega)
  have CR := Lib.hid cr
  have KI : Hid (KInv (WholeU unpackB) F0 (newLg 64) []) := Lib.hid (KInv.new mo hm0 (by omega) (by omega) cr)
  have BT : Hid (mo = 1048576 → Bt 64 0 ({ newDsk mo with files := F0 } : Dsk) (newLg 64) [] ∧ Lz 0 ({ newDsk mo with files := F0 } : Dsk) (newLg 64)) := Lib.hid (fun hmo => by
    subst hmo
    obtain ⟨d1, h1, h2⟩ := Bt.new (size := 64) (by omega) (by omega)
    obtain ⟨d2, h3, h4⟩ := Lz.new
    rw [cr] at h1 h3
    cases h1
    cases h3
    exact ⟨h2, h4⟩)
  have RK : Hid (Rk 64 0 (newLg 64)) := Lib.hid ⟨by have : (headB 0).length ≤ 18 := headB_len (by decide); simp only [newLg]; omega, rfl⟩
  have UP : Hid (({ newDsk mo with files := F0 } : Dsk).Up) := Lib.hid ⟨rfl, rfl⟩
  have MO : Hid (({ newDsk mo with files := F0 } : Dsk).most = mo) := Lib.hid rfl
  clear cr cm
  have KI : Hid (KInv (WholeU unpackB) ({ newDsk mo with files := F0 } : Dsk).files (newLg 64) []) := KI
  generalize ({ newDsk mo with files := F0 } : Dsk) = d0 at CR KI BT UP MO
  go_enter Tryz.func36, Tryz.ntmps36
  go_wp2_with fail
  refine (HasX.new mo w (by omega) hm1).mono ?_
  rintro e w1 ⟨b, rfl, H1⟩
  have H1 := Lib.hid H1
  have C := Create_ok H1.out HT.out 64
  rw [CR.out] at C
  have C := Lib.hid C
  go_wp2_with fail
  refine C.out.mono ?_
  rintro e w3 ⟨-, ⟨-, p, rfl, L3⟩ | ⟨hx, -⟩⟩
  case inr => exact absurd rfl hx
  have L3 := Lib.hid L3
  clear C H1 CR
  go_wp2
  go_loopw [11, 12] (fun s i wr => ∃ (k c m : Nat) (d : Dsk) (L : Lg) (all : List Ev), k ≤ 40 ∧ c ≤ k ∧ i = .int .i64 k ∧ KInv (WholeU unpackB) d.files L all ∧ Rk 64 c L ∧ L.over = false ∧ d.Up ∧ d.most = mo ∧ (mo = 1048576 → Bt 64 c d L all ∧ Lz c d L) ∧ (∀ x ∈ all, ∃ f ∈ fs, x ∈ f) ∧ HasL (fun j => s.ownBlock = some j) w wr p b d L ∧ Vec 5 wr s m (all.flatMap evV) ∧ all.length = m ∧ m ≤ 30 * c ∧ (∀ e ∈ all, e.Ok) ∧ ∀ g, s.ownBlock = some g → w.heap.size ≤ g) (fun _ i _ => 40 - (intOf i).toNat)
  case atStart => exact ⟨0, 0, 0, d0, _, [], by omega, by omega, rfl, KI.out, RK.out, rfl, UP.out, MO.out, BT.out, (fun x hx => by cases hx), L3.out.grow (Only.refl _) (Z := fun _ => False) (fun k hk => hk.elim) (fun k hk => by cases hk), Vec.nil, rfl, by omega, (fun e he => by cases he), fun g hg => by cases hg⟩
  case round =>
    obtain ⟨k, c, m, d, L, all, hk, hck, rfl, hki, hrk, hov, hup, hmo, hbt, hme, hL, hs, hm, hmc, hok, hfr⟩ := hrel
    have KK := Lib.hid hki
    have RK := Lib.hid hrk
    have HOV := Lib.hid hov
    have UP := Lib.hid hup
    have MO := Lib.hid hmo
    have BT := Lib.hid hbt
    have ME := Lib.hid hme
    have HL := Lib.hid hL
    have HS := Lib.hid hs
    have HM := Lib.hid hm
    have HOK := Lib.hid hok
    have HFR := Lib.hid hfr
    obtain ⟨sa, sc, rfl, -⟩ := hs.len
    clear hki hrk hov hup hmo hbt hme hL hs hm hok hfr L3 KI
    have HEND : Hid (Grown w wr mo b p (.slice sa m sc) d L all c true ∧ ∀ x ∈ all, ∃ f ∈ fs, x ∈ f) := Lib.hid ⟨⟨HL.out, by rw [HM.out]; exact HS.out, HOK.out, HFR.out, KK.out, RK.out, by omega, by rw [HM.out]; exact hmc, UP.out, MO.out, (fun h => ⟨rfl, BT.out h⟩), fun _ => HOV.out⟩, ME.out⟩
    by_cases h1 : k < nf
    case neg =>
      go_wp2
      refine bodyPost_ret (v := .tuple #[.pointer (some ⟨p, 0, none⟩), .slice sa m sc, .bool true]) (by simp [results, Tryz.results36, go_sem]) rfl ⟨b, p, _, d, L, all, c, true, rfl, HEND.out⟩
    by_cases h2 : k < 40
    case neg =>
      go_wp2
      refine bodyPost_ret (v := .tuple #[.pointer (some ⟨p, 0, none⟩), .slice sa m sc, .bool true]) (by simp [results, Tryz.results36, go_sem]) rfl ⟨b, p, _, d, L, all, c, true, rfl, HEND.out⟩
    obtain ⟨g, o, ea, ec, rfl, hg, hc0, hev⟩ := frame_at HF.out HNF.out h1
    have hc1 := HL.out.base.cell hc0
    have EV := Lib.hid (hev.nw HL.out.base)
    have hgw : g < wr.heap.size := Nat.lt_of_lt_of_le hg HL.out.base.size
    have HCELL := Lib.hid hc0
    have HG := Lib.hid hg
    have HEV := Lib.hid hev
    clear hc0 hev hg HEND
    have hesm : fs[k]'(by rw [HNF.out]; exact h1) ∈ fs := List.getElem_mem _
    generalize fs[k]'_ = es at hc1 EV HCELL HEV hesm
    have ESM := Lib.hid hesm
    clear hesm
    obtain ⟨n, hn⟩ : ∃ n, es.length = n := ⟨_, rfl⟩
    have HN := Lib.hid hn
    rw [hn] at hc1 EV HCELL HEV
    clear hn
    by_cases hz : n = 0
    case pos =>
      subst hz
      go_wp2_with fail
      go_roundw
      case rel => exact ⟨k + 1, c, m, d, L, all, by omega, by omega, by go_num, KK.out, RK.out, HOV.out, UP.out, MO.out, BT.out, ME.out, HL.out, HS.out, HM.out, hmc, HOK.out, HFR.out⟩
      case measure => simp [intOf]; omega
    have hz1 : ((n : Int) == 0) = false := by simp; omega
    by_cases h30 : 30 < n
    case pos =>
      have hz2 : decide ((30 : Int) < (n : Int)) = true := by simp; omega
      go_wp2_with fail
      go_roundw
      case rel => exact ⟨k + 1, c, m, d, L, all, by omega, by omega, by go_num, KK.out, RK.out, HOV.out, UP.out, MO.out, BT.out, ME.out, HL.out, HS.out, HM.out, hmc, HOK.out, HFR.out⟩
      case measure => simp [intOf]; omega
    have hz2 : decide ((30 : Int) < (n : Int)) = false := by simp; omega
    have C := Rk.call HL.out KK.out RK.out ⟨by omega, by omega⟩ (by omega) (by rw [HM.out]; omega) HT.out EV.out
    have hln : L.n < 2 ^ 64 := by have := KK.out.facts.1; rw [this, HM.out]; omega
    have hba := RK.out.add (d := d) (es := es) hln (by rw [HN.out]; omega)
    have hka := KK.out.add (d := d) (es := es) (seals_wholeU unpackB) EV.out.ok
    have hmo := add_most L d es
    have hup := add_up UP.out L es
    have hov := add_over (L := L) (d := d) (es := es)
    have hbt : mo = 1048576 → (L.add d es).e = 0 ∧ Bt 64 (c + 1) (L.add d es).d (L.add d es).L (all ++ es) ∧ Lz (c + 1) (L.add d es).d (L.add d es).L := fun hm => by
      obtain ⟨d', L', a1, a2⟩ := (BT.out hm).1.add (by omega) (by rw [HN.out]; exact hz) (by rw [HN.out]; omega) EV.out.ok
      obtain ⟨d2, L2, b1, b2⟩ := (BT.out hm).2.add (by omega) (es := es) (by rw [HN.out]; exact hz) (by rw [HN.out]; omega)
      rw [a1] at b1
      cases b1
      rw [a1]; exact ⟨rfl, a2, b2⟩
    obtain ⟨r, hr⟩ : ∃ r, L.add d es = r := ⟨_, rfl⟩
    rw [hr] at C hba hka hmo hup hbt hov
    obtain ⟨d', L', x⟩ := r
    have C := Lib.hid C
    have BA := Lib.hid hba
    have KA := Lib.hid hka
    have MA : Hid (d'.most = mo) := Lib.hid (hmo.trans MO.out)
    have UA := Lib.hid hup
    have TA := Lib.hid hbt
    have OA := Lib.hid hov
    clear hr hba hka hmo hup hbt hov hln
    go_wp2_with fail
    refine C.out.mono ?_
    rintro e w5 ⟨rfl, L5, K5⟩
    have L5 := Lib.hid L5
    have S5 := Lib.hid (HS.out.kept K5 fun g hg => hg)
    clear C EV hc1 hgw HL HS K5
    by_cases hx : x = 0
    case neg =>
      have q1 : (x != 0) = true := by simpa using hx
      have kk := KA.out
      rw [if_neg hx] at kk
      have KA2 := Lib.hid kk
      clear kk
      go_wp2
      refine bodyPost_ret (v := .tuple #[.pointer (some ⟨p, 0, none⟩), .slice sa m sc, .bool false]) (by simp [results, Tryz.results36, go_sem]) rfl ⟨b, p, _, d', L', all, c + 1, false, rfl, ⟨L5.out, by rw [HM.out]; exact S5.out, HOK.out, HFR.out, KA2.out, BA.out, by omega, by rw [HM.out]; omega, UA.out, MA.out, (fun h => absurd (TA.out h).1 hx), fun h => by cases h⟩, ME.out⟩
    subst hx
    have kk := KA.out
    rw [if_pos rfl] at kk
    have KA2 := Lib.hid kk
    clear kk
    have hcl := L5.out.base.cell HCELL.out
    have hgl := Nat.lt_of_lt_of_le HG.out L5.out.base.size
    have X5 := Lib.hid ((HEV.out.nw L5.out.base).src)
    rw [HN.out] at X5
    obtain ⟨i0, hi, hz0, hz1', hz2'⟩ := info_parts infoEv
    have HI := Lib.hid hi
    have HZ0' := Lib.hid hz0
    have HZ1 := Lib.hid hz1'
    have HZ2 := Lib.hid hz2'
    clear hi hz0 hz1' hz2'
    go_wp2_with (at_builtin; refine wpList_append_vec rfl _ _ 25 rfl 73 i0 (.agg #[.int .i64 0, .int .u8 0, .int .i64 0, .int .i64 0, .int .i64 0]) 5 40 Tryz.underlying25 HI.out HZ0'.out HZ1.out HZ2.out rfl (by decide) rfl rfl S5.out X5.out ?c1 ?c2 ?c3 ?_)
    case c1 => exact fun u hu => evV_one es u hu
    case c2 => unfold maxLen; omega
    case c3 => omega
    intro v5 w6 q5 q6 q7
    obtain ⟨ta, tc, rfl, -⟩ := q5.len
    have hlt5 := q5.lt
    have L6 : Hid (HasL (fun j => (Value.slice ta (m + n) tc).ownBlock = some j) w w6 p b d' L') := Lib.hid (L5.out.grow q6 (fun k hk _ => ⟨hk, HFR.out k hk⟩) (fun k hk => by
      rcases q7 with h | h
      · exact .inl (h ▸ hk)
      · exact .inr ⟨h k hk, hlt5 k hk⟩))
    have S6 : Hid (Vec 5 w6 (.slice ta (m + n) tc) (m + n) ((all ++ es).flatMap evV)) := Lib.hid (by rw [List.flatMap_append]; exact q5)
    have F6 : Hid (∀ g, (Value.slice ta (m + n) tc).ownBlock = some g → w.heap.size ≤ g) := Lib.hid (fun g hg => by
      rcases q7 with h | h
      · exact HFR.out g (h ▸ hg)
      · exact Nat.le_trans L5.out.base.size (h g hg))
    have M6 : Hid ((all ++ es).length = m + n) := Lib.hid (by rw [List.length_append, HM.out, HN.out])
    have OK6 : Hid (∀ e ∈ all ++ es, e.Ok) := Lib.hid (fun e he => by
      rcases List.mem_append.1 he with he | he
      · exact HOK.out e he
      · exact HEV.out.ok e he)
    clear q5 q6 q7 hlt5 hcl hgl L5 S5 X5
    go_wp2_with fail
    go_roundw
    case rel => exact ⟨k + 1, c + 1, m + n, d', L', all ++ es, by omega, by omega, by go_num, KA2.out, BA.out, (OA.out (by simp)), UA.out, MA.out, (fun h => (TA.out h).2), (fun x hx => by
      rcases List.mem_append.1 hx with hx | hx
      · exact ME.out x hx
      · exact ⟨es, ESM.out, hx⟩), L6.out, S6.out, M6.out, by omega, OK6.out, F6.out⟩
    case measure => simp [intOf]; omega
end Go.Proofs.YtjapijndljknnaaGreatDoor

/-
  amanuensislaw07.logged, walked.
-/
namespace Go.Proofs.YtjapijndljknnaaGreatDoor
open Go Go.RowKit Go.Sort
set_option maxRecDepth 100000
set_option maxHeartbeats 1600000
def cnts (cs : List Nat) : List Int := cs.map (fun c : Nat => (c : Int))
structure S7 where
  l : List Pc
  n : Nat
  bytes : Nat
def S7.step (s : S7) (c : Nat) : S7 := if (lastP s.l).first < s.n ∧ (64 : Int) ≤ s.bytes then ⟨morePcs ⟨64, s.l, s.n, 0, 0, false⟩, s.n + c, 9 + (5 * c + 6)⟩ else ⟨s.l, s.n + c, s.bytes + (5 * c + 6)⟩
def Lg.s7 (L : Lg) : S7 := ⟨L.l, L.n, L.bytes⟩
theorem s7_add {d d' : Dsk} {L L' : Lg} {c : Nat} (hc : c ≤ 25) (hn : L.n < 128) (hs : L.size = 64) (h : L.add d (zs c) = ⟨d', L', 0⟩) : L'.s7 = L.s7.step c ∧ L'.n = L.n + c ∧ L'.size = 64 := by
  obtain ⟨h1, h2, h3⟩ := add_fields h
  rw [frm_zs hc] at h3
  rw [zs_len] at h1
  refine ⟨?_, h1, by rw [h2, hs]⟩
  rw [hs, head_len hn] at h3
  unfold S7.step
  rcases h3 with ⟨a, b, c'⟩ | ⟨a, b, c'⟩
  · rw [if_pos (show (lastP L.s7.l).first < L.s7.n ∧ (64 : Int) ≤ L.s7.bytes from a)]
    simp only [Lg.s7, h1, b, c']
    simp [morePcs]
  · rw [if_neg (show ¬ ((lastP L.s7.l).first < L.s7.n ∧ (64 : Int) ≤ L.s7.bytes) from a)]
    simp only [Lg.s7, h1, b, c']
theorem logged7_ok (w : World) (ht : Tab w) (v : Value) (cs : List Nat) (hcs : ∀ c ∈ cs, 1 ≤ c ∧ c ≤ 25) (hl5 : cs.length ≤ 5) (hv : Rd i64v w v (cnts cs)) :
    Calls Tryz.prog 51 #[v] w fun e w' => ∃ (b p : Nat) (d : Dsk) (L : Lg), e = .returned (.tuple #[.pointer (some ⟨p, 0, none⟩), .bool true]) ∧ HasL (fun _ => False) w w' p b d L ∧
      Bt 64 cs.length d L (cs.flatMap zs) ∧ KInv (WholeU unpackB) d.files L (cs.flatMap zs) ∧ L.s7 = cs.foldl S7.step ⟨[pc0], 0, 9⟩ := by
  have HT := Lib.hid ht
  have HV := Lib.hid hv
  have HCS := Lib.hid hcs
  obtain ⟨a0, c0, rfl, -⟩ := hv.len
  obtain ⟨n, hn⟩ : ∃ n, cs.length = n := ⟨_, rfl⟩
  have hcl : (cnts cs).length = n := by unfold cnts; rw [List.length_map, hn]
  rw [hcl] at HV ⊢
  rw [hn] at hl5 ⊢
  have HN := Lib.hid hn
  clear ht hv hcs hn hcl
  obtain ⟨d0, cr, bt⟩ := Bt.new (size := 64) (by omega) (by omega)
  have hz0 : (newLg 64).s7 = (⟨[pc0], 0, 9⟩ : S7) := by unfold Lg.s7 newLg; simp only [head0]; rfl
  have ki : KInv (WholeU unpackB) d0.files (newLg 64) [] := KInv.new 1048576 (by omega) (by omega) (by omega) cr
  have CR := Lib.hid cr
  have KI := Lib.hid ki
  have BT := Lib.hid bt
  have HZ0 := Lib.hid hz0
  clear cr ki bt hz0
  go_enter Tryz.func51, Tryz.ntmps51
  go_wp2_with fail
  refine (HasX.new 1048576 w (by omega) (by omega)).mono ?_
  rintro e w1 ⟨b, rfl, H1⟩
  have H1 := Lib.hid H1
  have C := Create_ok H1.out HT.out 64
  rw [CR.out] at C
  have C := Lib.hid C
  go_wp2_with fail
  refine C.out.mono ?_
  rintro e w3 ⟨-, ⟨-, p, rfl, L3⟩ | ⟨hx, -⟩⟩
  case inr => exact absurd rfl hx
  have L3 := Lib.hid (L3.less (Y := fun _ => False) fun k hk => hk.elim)
  clear C H1 CR
  go_wp2
  go_loopw [8] (fun i wr => ∃ (k : Nat) (d : Dsk) (L : Lg), k ≤ n ∧ i = .int .i64 k ∧ Bt 64 k d L ((cs.take k).flatMap zs) ∧ KInv (WholeU unpackB) d.files L ((cs.take k).flatMap zs) ∧ L.s7 = (cs.take k).foldl S7.step ⟨[pc0], 0, 9⟩ ∧ L.n ≤ 25 * k ∧ HasL (fun _ => False) w wr p b d L) (fun i _ => n - (intOf i).toNat)
  case atStart => exact ⟨0, d0, _, by omega, rfl, BT.out, KI.out, HZ0.out, by simp [newLg], L3.out⟩
  case round =>
    obtain ⟨k, d, L, hk, rfl, hbt, hki, hs7, hLn, hL⟩ := hrel
    have BT := Lib.hid hbt
    have KK := Lib.hid hki
    have HS := Lib.hid hs7
    have HLn := Lib.hid hLn
    have HL := Lib.hid hL
    clear hbt hki hs7 hLn hL L3 KI HZ0
    by_cases h1 : k < n
    case neg =>
      obtain rfl : k = n := by omega
      go_wp2
      refine bodyPost_ret (v := .tuple #[.pointer (some ⟨p, 0, none⟩), .bool true]) (by simp [results, Tryz.results51, go_sem]) rfl ⟨b, p, d, L, rfl, HL.out, ?_, ?_, ?_⟩
      · have := BT.out; rw [List.take_of_length_le (by rw [HN.out]; exact Nat.le_refl _)] at this; exact this
      · have := KK.out; rw [List.take_of_length_le (by rw [HN.out]; exact Nat.le_refl _)] at this; exact this
      · have := HS.out; rw [List.take_of_length_le (by rw [HN.out]; exact Nat.le_refl _)] at this; exact this
    have hkl : k < cs.length := by rw [HN.out]; exact h1
    obtain ⟨c, hc⟩ : ∃ c, cs[k] = c := ⟨_, rfl⟩
    have hcb : 1 ≤ c ∧ c ≤ 25 := HCS.out c (by rw [← hc]; exact List.getElem_mem _)
    have htk : cs.take (k + 1) = cs.take k ++ [c] := by rw [List.take_succ_eq_append_getElem hkl, hc]
    have HTK := Lib.hid htk
    obtain ⟨a', cap', hv', h2, h3, hel⟩ := HV.out.elems
    obtain ⟨rfl, rfl⟩ : a0 = a' ∧ c0 = cap' := by injection hv' with e1 e2 e3; exact ⟨e1, e3⟩
    obtain ⟨g, o, rfl, hg, hcell⟩ := hel k (by unfold cnts; rw [List.length_map]; exact hkl)
    have hcv : i64v ((cnts cs)[k]'(by unfold cnts; rw [List.length_map]; exact hkl)) = .int .i64 (c : Int) := by simp only [cnts, List.getElem_map, hc, i64v]
    rw [hcv] at hcell
    have hcell := HL.out.base.cell hcell
    have hg := Nat.lt_of_lt_of_le hg HL.out.base.size
    clear hv' hel hcv htk hc
    obtain ⟨W5, hmk, nw5, vc5⟩ := makeN wr c (by omega) .i64
    have EV5 := Lib.hid (⟨by rw [zs_len]; exact vc5.src, zs_ok c⟩ : Evs W5 (.slice (some ⟨wr.heap.size, 0, none⟩) c c) (zs c))
    have L5 := Lib.hid (HL.out.nw nw5)
    obtain ⟨d', L', ad, bt'⟩ := BT.out.add (es := zs c) (by omega) (by rw [zs_len]; omega) (by rw [zs_len]; omega) (zs_ok c)
    have CA := Ak.call L5.out BT.out.ak (by omega) (by unfold in64; omega) HT.out EV5.out
    rw [ad] at CA
    have kk := KK.out.add (d := d) (es := zs c) (seals_wholeU unpackB) (zs_ok c)
    rw [ad, if_pos rfl] at kk
    have s7 := s7_add hcb.2 (by have := HLn.out; omega) BT.out.ak.size ad
    have CA := Lib.hid CA
    have KA := Lib.hid kk
    have BA := Lib.hid bt'
    have SA := Lib.hid s7
    clear kk bt' s7 ad nw5 vc5
    go_wp2_with fail
    refine CA.out.mono ?_
    rintro e w6 ⟨rfl, L6, -⟩
    have L6 := Lib.hid L6
    clear CA L5 EV5 hmk hcell hg
    go_wp2
    go_roundw
    case rel =>
      refine ⟨k + 1, d', L', by omega, by go_num, ?_, ?_, ?_, ?_, L6.out⟩
      · rw [HTK.out, List.flatMap_append]; simpa using BA.out
      · rw [HTK.out, List.flatMap_append]; simpa using KA.out
      · rw [HTK.out, List.foldl_append, ← HS.out]; exact SA.out.1
      · have h1 := SA.out.2.1; have h2 := HLn.out; omega
    case measure => simp [intOf]; omega
end Go.Proofs.YtjapijndljknnaaGreatDoor

/-
  Behind compaction on a calm disk: plain words (what the laws of chapter 07 ask).
-/
namespace Go.Proofs.YtjapijndljknnaaGreatDoor
open Go
set_option maxRecDepth 100000
section
variable {c : Nat} {d : Dsk} {L : Lg} {all es : List Ev}
/-- A frame goes in, where there is room. -/
theorem add_free (hc : Calm d) (hk : KInv (WholeU unpackB) d.files L all) (ho : L.over = false) (hl : L.l.length < 100) (hn : L.n ≤ 1000000) (hu : ((usedF d.files + 6227 + (frmB es).length : Nat) : Int) ≤ d.most) (hf : d.files.length < 190) (h1 : es.length ≠ 0) (h2 : es.length ≤ 4096) : (L.add d es).e = 0 := by
  obtain ⟨A, p, old, fs, m, h⟩ := hk
  have hlast := h.last
  have hb := right_bound h.right p (by simp)
  have hpn : p.name ∈ namesF d.files := mem_of_ne (by rw [h.open_]; unfold segB; exact fun hc => headB_ne _ (List.append_eq_nil_iff.1 hc).1)
  have hpo := (okPiece_name h.right.name).1
  have hput : ∀ (M : Lg) (x : Dsk), Calm x → okName (lastP M.l).name = true → ((usedF x.files + (frmB es).length : Nat) : Int) ≤ x.most → x.files.length < 200 → (M.put x es).e = 0 := fun M x c1 c2 c3 c4 => by
    unfold Lg.put
    rw [append_calm c1 c2 c3 (.inr c4), if_neg (by simp)]
  unfold Lg.add
  rw [ho, if_neg (by simp), if_neg h1, if_neg (by omega)]
  unfold Lg.roomed
  by_cases hst : (lastP L.l).first < L.n ∧ L.size ≤ L.bytes
  case neg =>
    rw [if_neg hst]
    simp only
    rw [if_neg (by simp)]
    exact hput L d hc (by rw [hlast]; exact hpo) (by omega) (by omega)
  rw [if_pos hst]
  rw [hlast] at hst
  -- the piece is sealed
  have s1 := sync_calm hc hpn
  have u1 := usedF_setF d.files p.name ⟨(fileOf d.files p.name).bytes, (fileOf d.files p.name).bytes.length⟩
  have l1 := length_setF d.files p.name ⟨(fileOf d.files p.name).bytes, (fileOf d.files p.name).bytes.length⟩
  rw [if_pos hpn] at l1
  have c1 := hc.setF p.name ⟨(fileOf d.files p.name).bytes, (fileOf d.files p.name).bytes.length⟩
  obtain ⟨F1, hF1⟩ : ∃ F, setF d.files p.name ⟨(fileOf d.files p.name).bytes, (fileOf d.files p.name).bytes.length⟩ = F := ⟨_, rfl⟩
  rw [hF1] at s1 u1 l1 c1
  simp only at u1
  have hhl := headB_len (n := L.n) (by omega)
  have s2 : ({ d with files := F1 } : Dsk).begun L.n = _ := fresh_calm (n := segName L.n) (b := headB L.n) c1 (okPiece_name (segName_ok (n := L.n) (by omega))).1 (by simp only; omega) (by simp only; omega)
  have c2 := c1.delF (segName L.n)
  have m2 := not_mem_delF c1.names (segName L.n)
  have u2 := usedF_delF F1 (segName L.n)
  have l2 := length_delF F1 (segName L.n)
  simp only at s2 c2 m2
  obtain ⟨F2, hF2⟩ : ∃ F, delF F1 (segName L.n) ++ [(segName L.n, (⟨headB L.n, (headB L.n).length⟩ : DFile))] = F := ⟨_, rfl⟩
  have u3 : usedF F2 = usedF (delF F1 (segName L.n)) + (headB L.n).length := by rw [← hF2]; simp [usedF]
  have l3 : F2.length = (delF F1 (segName L.n)).length + 1 := by rw [← hF2]; simp
  have c3 : Calm ({ d with files := F2 } : Dsk) := c1.same _ (by rw [← hF2, ← setF_miss m2]; exact nodup_setF c2.names _ _)
  rw [hF2] at s2
  have hml : morePcs L = (A ++ [{ p with count := L.n - p.first }]) ++ [⟨segName L.n, L.n, 0, false⟩] := by
    unfold morePcs
    rw [hlast, h.l, List.dropLast_concat]
    simp
  have hAl : A.length + 1 < 100 := by rw [h.l] at hl; simpa using hl
  have hr : rightL (morePcs L) = true := by
    rw [hml]
    refine (rightL_iff _ _).2 ⟨by simpa using hAl, (sealedFrom_snoc _ _ _ _).2 ⟨h.right.sealed_, h.right.name, by simp, h.right.apart, h.right.first, ?_, ?_⟩, segName_ok (by omega), ?_, ?_, rfl, rfl⟩
    · simp only; omega
    · simp only; omega
    · have := h.free L.n hst.1
      rw [h.l] at this
      simpa using this
    · rw [endOf_snoc, ← h.right.first]
      simp only; omega
  have hmb := manifestB_len hr
  have s3 := install_calm c3 hr (by simp only; omega) (by simp only; omega)
  have c4 := (c3.delF nextS).setF manifestS ⟨manifestB (morePcs L), (manifestB (morePcs L)).length⟩
  have u4 := usedF_delF F2 nextS
  have u5 := usedF_setF (delF F2 nextS) manifestS ⟨manifestB (morePcs L), (manifestB (morePcs L)).length⟩
  have l4 := length_delF F2 nextS
  have l5 := length_setF (delF F2 nextS) manifestS ⟨manifestB (morePcs L), (manifestB (morePcs L)).length⟩
  simp only at s3 c4 u5
  obtain ⟨F3, hF3⟩ : ∃ F, setF (delF F2 nextS) manifestS ⟨manifestB (morePcs L), (manifestB (morePcs L)).length⟩ = F := ⟨_, rfl⟩
  rw [hF3] at s3 c4 u5 l5
  have l6 : F3.length ≤ (delF F2 nextS).length + 1 := by rw [l5]; split <;> omega
  have ha : L.another d = ⟨{ d with files := F3 }, { L with acked := L.n, l := morePcs L, bytes := (headB L.n).length }, 0⟩ := by
    unfold Lg.another
    rw [hlast, if_neg (by omega), s1]
    simp only
    rw [if_neg (by simp), s2]
    simp only
    rw [if_neg (by simp), s3]
    simp
  rw [ha]
  simp only
  rw [if_neg (by simp)]
  refine hput _ _ c4 ?_ (by simp only; omega) (by simp only; omega)
  simp only
  rw [hml, lastP_snoc]
  exact (okPiece_name (segName_ok (n := L.n) (by omega))).1
theorem list_len (d : Dsk) : d.list.length = (namesF d.files).length := by unfold Dsk.list; rw [List.length_mergeSort]
structure Gc (c : Nat) (d : Dsk) (L : Lg) (all : List Ev) (d' : Dsk) (L' : Lg) (n : Nat) : Prop where
  calm : Calm d'
  most : d'.most = 1048576
  used : usedF d'.files ≤ 424957
  n_ : n + 1 = L.l.length
  len : L'.l.length = min L.l.length 2
  kin : KInv (WholeU unpackB) d'.files L' all
  again : compD all L' d' = ⟨d', L', 0, 0⟩
  names : (namesF d'.files).Perm (manifestS :: L'.l.map Pc.name)
  two : 2 ≤ L'.l.length → ∃ (k : Nat) (q : Pc), L'.l = [densePc k, q] ∧ q.first = k ∧ lastP L.l = q ∧ 1 ≤ k ∧ k ≤ 1200
  open_ : fileOf d'.files (lastP L.l).name = fileOf d.files (lastP L.l).name
  acked : L'.acked = L.acked
  n0 : L'.n = L.n
  bytes : L'.bytes = L.bytes
  size : L'.size = L.size
  over : L'.over = false
  last : lastP L'.l = lastP L.l
theorem comp_two (hb : Bt 64 c d L all) (hk : KInv (WholeU unpackB) d.files L all) (hok : ∀ e ∈ all, e.Ok) (hc : c ≤ 40) : ∃ d' L' n, compD all L d = ⟨d', L', n, 0⟩ ∧ Gc c d L all d' L' n := by
  obtain ⟨A, p, hi, hAc⟩ := hb.ak.inv
  have hmost := hb.ak.most
  have hused := hb.ak.used
  have hn := hb.ak.n
  have hlast := hi.open_
  have hdl : L.l.dropLast = A := by rw [hi.l]; simp
  have hll : L.l.length = A.length + 1 := by rw [hi.l]; simp
  have hnn : L.n = all.length := by obtain ⟨_, _, _, _, _, kk⟩ := hk; exact kk.n
  cases hl : lone A with
  | true =>
    have hA : A = [] := by
      match A, hl with
      | [], _ => rfl
      | [q], hl =>
        exfalso
        obtain ⟨A', p', old, fs, m, k⟩ := hb.kin
        have hA' : A' = [q] := by rw [← hdl, k.l]; simp
        subst hA'
        obtain ⟨b, e, -, hw⟩ := sealedF_at k.old_ q (by simp)
        obtain ⟨_, -, -, -, -, hd, -⟩ := hw
        simp [lone, hd] at hl
    subst hA
    have hcomp : compD all L d = ⟨d, L, 0, 0⟩ := by
      unfold compD
      rw [hi.over, hdl, if_neg (by simp), if_pos (show lone [] = true from rfl)]
    exact ⟨d, L, 0, hcomp, hi.calm, hmost, by omega, by rw [hll]; rfl, by rw [hll]; simp, hk, hcomp, hi.names, fun h => by rw [hll] at h; simp at h, rfl, rfl, rfl, rfl, rfl, hi.over, rfl⟩
  | false =>
    have hl' : lone L.l.dropLast = false := by rw [hdl]; exact hl
    obtain ⟨F, hF, n1, n2⟩ := comp_calm hb hc hl'
    have hck := comp_keeps hk hok (by omega)
    have hcf := comp_files hk hl' (by rw [hF])
    have hA1 : 1 ≤ A.length := by
      cases A with
      | nil => simp [lone] at hl
      | cons x A => simp
    have hbd := right_bound hi.right p (by simp)
    have hpk := hi.acked0
    have hpn := hi.acked1
    obtain ⟨k, hkk⟩ : ∃ k, p.first.toNat = k := ⟨_, rfl⟩
    have hk1 : 1 ≤ k := by
      rcases sealed_pos hi.right.sealed_ with rfl | hh
      · simp at hA1
      · rw [← hi.right.first] at hh; omega
    rw [hF] at hck hcf
    rw [hlast, hkk] at hF n2 hcf
    rw [hdl] at hF
    obtain ⟨-, hck⟩ := hck
    obtain ⟨k1, k2, k3, k4, k5, k6, k7, k8⟩ := hck rfl
    simp only [hlast, hkk] at k1 k6 k8
    obtain ⟨-, f1, f2, f3⟩ := hcf
    have hdk : dName k ≠ manifestS := fun hc => absurd (List.cons.inj hc).1 (by decide)
    have hpd : p.name ≠ dName k := by rw [hi.seg p (by rw [hi.l]; simp)]; exact fun e => dName_seg _ _ e.symm
    have hpm : p.name ≠ manifestS := (okPiece_name hi.right.name).2.1
    have hperm : (namesF F).Perm [manifestS, dName k, p.name] := by
      refine (List.perm_ext_iff_of_nodup n1 ?_).2 fun x => ?_
      · simp [hdk.symm, hpm.symm, hpd.symm]
      · rw [n2 x]; simp
    refine ⟨_, _, _, hF, ⟨hi.calm.up, hi.calm.arm, n1⟩, hmost, ?_, by rw [hll], ?_, k1, ?_, hperm, fun _ => ⟨k, p, rfl, by omega, hlast, hk1, by omega⟩, ?_, rfl, rfl, rfl, rfl, hi.over, ?_⟩
    · have u1 := usedF_perm n1 hperm
      have htl : (all.take k).length ≤ 1200 := by rw [List.length_take]; omega
      have hpb := packB_len (l := all.take k) (by omega)
      have hrm : rightL [densePc k, p] = true := by
        obtain ⟨A2, p2, old2, fs2, m2, kk⟩ := k1
        have := (rightL_iff _ _).2 kk.right
        rw [← kk.l] at this
        exact this
      have hmb := manifestB_len hrm
      have hpu : (fileOf d.files p.name).bytes.length ≤ usedF d.files := by
        have u0 := usedF_perm hi.calm.names hi.names
        rw [hi.l] at u0
        simp only [List.map_cons, List.map_append, List.map_nil, List.sum_cons, List.sum_append, List.sum_nil] at u0
        omega
      simp only [List.map_cons, List.map_nil, List.sum_cons, List.sum_nil, f1, f2, f3] at u1
      simp only
      omega
    · simp only [List.length_cons, List.length_nil]; omega
    · unfold compD
      simp only
      rw [hi.over, if_neg (by simp), if_pos k6]
    · simp only; rw [hlast]; exact f2
    · rw [hlast]; exact k8
theorem Gc.add {d' : Dsk} {L' : Lg} {n : Nat} (h : Gc c d L all d' L' n) (hc : c ≤ 40) (hb : Bt 64 c d L all) (h1 : es.length ≠ 0) (h2 : es.length ≤ 30) : (L'.add d' es).e = 0 := by
  have hn := hb.ak.n
  have hl := h.len
  have hf := frm_le h2
  have hn0 := h.n0
  have hu := h.used
  have hm := h.most
  have hln := h.names.length_eq
  have hfl : d'.files.length = (namesF d'.files).length := by simp [namesF]
  simp only [List.length_cons, List.length_map] at hln
  exact add_free h.calm h.kin h.over (by omega) (by omega) (by omega) (by omega) h1 (by omega)
end
end Go.Proofs.YtjapijndljknnaaGreatDoor

/-
  A log's disk beside recovery, in plain words: what the laws of chapter 06 ask of sealed pieces, cuts, strays.
-/
namespace Go.Proofs.YtjapijndljknnaaGreatDoor
open Go
section
variable {d : Dsk} {l A : List Pc} {p : Pc} {old told all : List Ev} {fs : List (List Ev)} {t : List UInt8} {m sure c : Nat} {L : Lg} {F : List (Str × DFile)} {size : Int}
/-- What is told of a log's disk. -/
theorem Bt.scanned (h : Bt size c d L all) : (∃ gd, scanD U0 d = ⟨all, L.l, gd, 0⟩) ∧ DenFor U0 d ∧ ∃ A p old fs m, L.l = A ++ [p] ∧ TIn SegWh d.files L.l A p old fs [] m ∧ all = old ++ fs.flatten := by
  obtain ⟨A, p, old, fs, m, hk⟩ := h.kin
  have ht := hk.tin
  have hs := (ht.imp (Wh' := WholeU U0) fun _ _ _ h => h.whole).scan h.calm.up
  refine ⟨⟨((segB p.first.toNat fs).length : Int), by rw [hs, hk.all_]⟩, (ht.imp (Wh' := WholeU U0) fun _ _ _ h => h.whole).den0 h.calm.up, A, p, old, fs, m, hk.l, ht, hk.all_⟩
theorem Bt.sealed (h : Bt size c d L all) {k : Nat} (hk : k + 1 < L.l.length) : 0 < (fileOf d.files (L.l[k]'(by omega)).name).bytes.length ∧ ∀ j < (fileOf d.files (L.l[k]'(by omega)).name).bytes.length, ∃ d', d.cut (L.l[k]'(by omega)).name j = (d', 0) ∧ scanD U0 d' = ⟨[], [], 0, 14⟩ ∧ DenFor U0 d' ∧ mendD U0 d' = ⟨d', [], [], 14⟩ ∧ openD U0 d' 64 = ⟨d', newLg 64, [], 14⟩ := by
  obtain ⟨-, -, A, p, old, fs, m, hl, ht, -⟩ := h.scanned
  have hkA : k < A.length := by rw [hl] at hk; simp at hk; omega
  have hq : L.l[k]'(by omega) = A[k] := by
    have e : ∀ (l : List Pc) (hh : l = A ++ [p]) (hi : k < l.length), l[k] = A[k] := fun l hh hi => by subst hh; rw [List.getElem_append_left hkA]
    exact e L.l hl (by omega)
  rw [hq]
  have hqm : A[k] ∈ A := List.getElem_mem hkA
  obtain ⟨b, e, f1, fs', f2, rfl, -⟩ := sealedF_at ht.old_ _ hqm
  refine ⟨?_, fun j hj => ?_⟩
  · rw [f1]
    simp only
    have := headB_ne (A[k]).first.toNat
    have h2 := List.length_pos_iff.2 this
    simp only [segB, List.length_append]
    omega
  obtain ⟨d', c1, c2, c3⟩ := ht.spoilt (U := U0) h.calm hqm hj
  have hm : mendD U0 d' = ⟨d', [], [], 14⟩ := by
    unfold mendD mendWith
    rw [c3]
    rw [if_pos (by simp)]
  refine ⟨d', c1, c3, ?_, hm, ?_⟩
  · have hqn : ¬ (A[k]).name = manifestS := (okPiece_name (right_name ht.right _ (by simp [hqm]))).2.1
    have hman : fileOf d'.files manifestS = ⟨manifestB L.l, (manifestB L.l).length⟩ := by
      rcases cut_files (d := d) (n := (A[k]).name) (k := (j : Int)) with ⟨g1, g2⟩ | ⟨g1, g2⟩
      · rw [c1] at g2
        rw [g2, fileOf_setF, if_neg hqn]; exact ht.man
      · rw [c1] at g1; exact absurd rfl g1
    refine .inr ?_
    rw [read_of c2.up (congrArg DFile.bytes hman) (manifestB_ne _)]
    simp only
    rw [listedB_at ht.rightL, hl]
    intro q hq
    rcases List.mem_append.1 hq with hq | hq
    · obtain ⟨b, e, -, hw⟩ := sealedF_at (ht.imp (Wh' := WholeU U0) fun _ _ _ h => h.whole).old_ q hq
      exact whole0 hw
    · rw [List.mem_singleton] at hq; subst hq; exact ht.right.dense
  · unfold openD
    rw [if_neg (by omega), hm, if_pos (by simp)]
end
end Go.Proofs.YtjapijndljknnaaGreatDoor

/-
  Files of other names beside a log's, in plain words.
-/
namespace Go.Proofs.YtjapijndljknnaaGreatDoor
open Go
/-- Beside the files of the one disk, which are as they were, there may be others. -/
structure Stray (d0 d : Dsk) : Prop where
  calm : Calm d
  files : ∀ x ∈ namesF d0.files, x ∈ namesF d.files ∧ fileOf d.files x = fileOf d0.files x
section
variable {d0 d : Dsk} {all : List Ev} {c : Nat} {L : Lg} {size : Int} {n : Str} {b : List UInt8}
theorem Stray.refl (h : Calm d) : Stray d d := ⟨h, fun x hx => ⟨hx, rfl⟩⟩
theorem Stray.append (h : Stray d0 d) (hn : n ∉ namesF d0.files) : Stray d0 (d.append n b).1 := by
  unfold Dsk.append
  by_cases hm : d.mayAppend n b = 0
  · rw [hm, op_calm h.calm]
    refine ⟨h.calm.setF _ _, fun x hx => ?_⟩
    have hne : ¬ n = x := fun e => hn (e ▸ hx)
    simp only
    refine ⟨?_, by rw [fileOf_setF, if_neg hne]; exact (h.files x hx).2⟩
    rw [nmF_setF]
    split
    · exact (h.files x hx).1
    · exact List.mem_append_left _ (h.files x hx).1
  · rw [op_calm_no h.calm hm]
    exact h
theorem list_perm {d d' : Dsk} (h : (namesF d.files).Perm (namesF d'.files)) : d.list = d'.list := Go.mergeSort_of_perm h
theorem Bt.strays (h : Bt size c d0 L all) (hs : Stray d0 d) : (∃ gd, scanD U0 d = ⟨all, L.l, gd, 0⟩) ∧ DenFor U0 d ∧ ∃ d2 ps, mendD U0 d = ⟨d2, all, ps, 0⟩ ∧ d2.list = d0.list := by
  obtain ⟨-, -, A, p, old, fs, m, hl, ht, hall⟩ := h.scanned
  obtain ⟨A', p', hi, -⟩ := h.ak.inv
  have hnm : ∀ x, x ∈ staysOf L.l ↔ x ∈ namesF d0.files := fun x => (hi.names.mem_iff).symm
  have ht2 : TIn SegWh d.files L.l A p old fs [] m := ht.files hs.calm.names fun x hx => (hs.files x ((hnm x).1 hx)).2
  have hw := ht2.imp (Wh' := WholeU U0) fun _ _ _ h => h.whole
  have hsc := hw.scan hs.calm.up
  rw [← hall] at hsc
  refine ⟨⟨_, hsc⟩, hw.den0 hs.calm.up, ?_⟩
  obtain ⟨F, f1, f2, f3⟩ := mendWith_calm hs.calm (r := scanD U0 d) (k := (segB p.first.toNat fs).length) (by rw [hsc]) (by rw [hsc]) (by
    rw [hsc]
    simp only
    obtain ⟨s, s1, -⟩ := ht2.open_
    rw [hl, lastP_snoc, s1]
    simp)
  rw [hsc] at f1 f3
  refine ⟨_, _, (show mendD U0 d = mendWith d (scanD U0 d) from rfl).trans (by rw [hsc]; exact f1), list_perm ?_⟩
  simp only
  refine (List.perm_ext_iff_of_nodup f2 h.calm.names).2 fun x => ?_
  rw [f3 x]
  simp only
  rw [hnm x]
  exact ⟨fun h => h.2, fun h => ⟨(hs.files x h).1, h⟩⟩
end
end Go.Proofs.YtjapijndljknnaaGreatDoor
