/-
  Texts merged by a program of this claim's: Logged.
-/
import Derived.Test.YtjapijndljknnaaGreatDoorM28
import Derived.Test.YtjapijndljknnaaGreatDoorM22
import Derived.Test.YtjapijndljknnaaGreatDoorM37
import Derived.Test.YtjapijndljknnaaGreatDoorM42
/-
  amanuensislaw05.logged: a log, made and written with the first frames; what it hands back.
-/
namespace Go.Proofs.YtjapijndljknnaaGreatDoor
open Go Go.RowKit Go.Sort
set_option maxRecDepth 100000
set_option maxHeartbeats 1600000

theorem logged_ok (w : World) (ht : Tab w) (v1 : Value) (fs : List (List Ev)) (size : Int) (h0 : RdK 1 (isEvs w) w v1 fs) :
    Calls Tryz.prog 11 #[.int .i64 size, v1] w fun e w' => ∃ (p b c : Nat) (d : Dsk) (L : Lg) (sa : Option Addr) (sc : Nat) (all : List Ev),
      e = .returned (.tuple #[.pointer (some ⟨b, 0, none⟩), .pointer (some ⟨p, 0, none⟩), .slice sa L.n sc, .bool true]) ∧ c ≤ 60 ∧ Pk (64 + size % 300) c d L ∧ HasL (fun j => (Value.slice sa L.n sc).ownBlock = some j) w w' p b d L ∧
      Vec 5 w' (.slice sa L.n sc) L.n (all.flatMap evV) ∧ all.length = L.n := by
  have HT := Lib.hid ht
  have HF := Lib.hid h0
  obtain ⟨a0, c0, rfl, -⟩ := h0.len
  clear ht h0
  obtain ⟨nf, hnf⟩ : ∃ n, fs.length = n := ⟨_, rfl⟩
  rw [hnf] at HF ⊢
  have HNF := Lib.hid hnf
  clear hnf
  have hp0 := Int.emod_nonneg size (by omega : (300 : Int) ≠ 0)
  have hp1 := Int.emod_lt_of_pos size (by omega : (0 : Int) < 300)
  have hwr : IntKind.i64.wrap (64 + size % 300) = 64 + size % 300 := IntWalk.i64_in _ (by omega)
  obtain ⟨d0, cr, pk⟩ := Pk.new (size := 64 + size % 300) (by omega) (by omega)
  have PK := Lib.hid pk
  have CR := Lib.hid cr
  have HZ0 : Hid (in64 (64 + size % 300)) := Lib.hid ⟨by omega, by omega⟩
  have HSZ : Hid (64 ≤ 64 + size % 300 ∧ 64 + size % 300 ≤ 364) := Lib.hid ⟨by omega, by omega⟩
  clear pk cr hp0 hp1
  go_enter Tryz.func11, Tryz.ntmps11
  go_wp2_with fail
  refine (HasX.new 1048576 w (by omega) (by omega)).mono ?_
  rintro e w1 ⟨b, rfl, H1⟩
  have H1 := Lib.hid H1
  go_wp2_with fail
  refine (Pick_ok size 300 w1 (by omega) (by omega)).mono ?_
  rintro e w2 ⟨rfl, rfl⟩
  have HC := Lib.hid (Create_ok H1.out HT.out (64 + size % 300))
  have hcr := CR.out
  rw [hcr] at HC
  clear hcr
  go_wp2_with fail
  refine HC.out.mono ?_
  rintro e w3 ⟨-, ⟨-, p, rfl, L3⟩ | ⟨hx, -⟩⟩
  case inr => exact absurd rfl hx
  have L3 := Lib.hid L3
  clear HC H1 CR
  go_wp2
  go_loopw [12, 13] (fun s i wr => ∃ (k c m : Nat) (d : Dsk) (L : Lg) (all : List Ev), k ≤ 60 ∧ c ≤ k ∧ i = .int .i64 k ∧ Pk (64 + size % 300) c d L ∧ HasL (fun j => s.ownBlock = some j) w wr p b d L ∧ Vec 5 wr s m (all.flatMap evV) ∧ all.length = m ∧ m = L.n ∧ m ≤ 30 * c ∧ (∀ g, s.ownBlock = some g → w.heap.size ≤ g)) (fun _ i _ => 60 - (intOf i).toNat)
  case atStart => exact ⟨0, 0, 0, d0, _, [], by omega, by omega, rfl, PK.out, L3.out.grow (Only.refl _) (Z := fun _ => False) (fun k hk => hk.elim) (fun k hk => by cases hk), Vec.nil, rfl, rfl, by omega, fun g hg => by cases hg⟩
  case round =>
    obtain ⟨k, c, m, d, L, all, hk, hck, rfl, hpk, hL, hs, hm, hmn, hmc, hfr⟩ := hrel
    have PK := Lib.hid hpk
    have HL := Lib.hid hL
    have HS := Lib.hid hs
    have HM := Lib.hid hm
    have HMN := Lib.hid hmn
    have HFR := Lib.hid hfr
    obtain ⟨sa, sc, rfl, -⟩ := hs.len
    clear hpk hL hs hm hmn hfr L3
    by_cases h1 : k < nf
    case neg =>
      go_wp2
      refine bodyPost_ret (v := .tuple #[.pointer (some ⟨b, 0, none⟩), .pointer (some ⟨p, 0, none⟩), .slice sa m sc, .bool true]) (by simp [results, Tryz.results11, go_sem]) rfl ⟨p, b, c, d, L, sa, sc, all, by rw [← HMN.out], by omega, PK.out, by rw [← HMN.out]; exact HL.out, by rw [← HMN.out]; exact HS.out, by rw [← HMN.out]; exact HM.out⟩
    by_cases h2 : k < 60
    case neg =>
      go_wp2
      refine bodyPost_ret (v := .tuple #[.pointer (some ⟨b, 0, none⟩), .pointer (some ⟨p, 0, none⟩), .slice sa m sc, .bool true]) (by simp [results, Tryz.results11, go_sem]) rfl ⟨p, b, c, d, L, sa, sc, all, by rw [← HMN.out], by omega, PK.out, by rw [← HMN.out]; exact HL.out, by rw [← HMN.out]; exact HS.out, by rw [← HMN.out]; exact HM.out⟩
    obtain ⟨g, o, ea, ec, rfl, hg, hc0, hev⟩ := frame_at HF.out HNF.out h1
    have hc1 := HL.out.base.cell hc0
    have EV := Lib.hid (hev.nw HL.out.base)
    have hgw : g < wr.heap.size := Nat.lt_of_lt_of_le hg HL.out.base.size
    have HCELL := Lib.hid hc0
    have HG := Lib.hid hg
    have HEV := Lib.hid hev
    clear hc0 hev hg
    generalize fs[k]'_ = es at hc1 EV HCELL HEV
    obtain ⟨n, hn⟩ : ∃ n, es.length = n := ⟨_, rfl⟩
    have HN := Lib.hid hn
    rw [hn] at hc1 EV HCELL HEV
    clear hn
    by_cases hz : n = 0
    case pos =>
      subst hz
      go_wp2_with fail
      go_roundw
      case rel => exact ⟨k + 1, c, m, d, L, all, by omega, by omega, by go_num, PK.out, HL.out, HS.out, HM.out, HMN.out, hmc, HFR.out⟩
      case measure => simp [intOf]; omega
    have hz1 : ((n : Int) == 0) = false := by simp; omega
    by_cases h30 : 30 < n
    case pos =>
      have hz2 : decide ((30 : Int) < (n : Int)) = true := by simp; omega
      go_wp2_with fail
      go_roundw
      case rel => exact ⟨k + 1, c, m, d, L, all, by omega, by omega, by go_num, PK.out, HL.out, HS.out, HM.out, HMN.out, hmc, HFR.out⟩
      case measure => simp [intOf]; omega
    have hz2 : decide ((30 : Int) < (n : Int)) = false := by simp; omega
    obtain ⟨d', L', ad, pk', hn'⟩ := PK.out.add (es := es) (by omega) HSZ.out.1 (by rw [HN.out]; omega) (by rw [HN.out]; omega)
    have C := Ak.call HL.out PK.out.ak (by omega) HZ0.out HT.out EV.out
    rw [ad] at C
    have C := Lib.hid C
    have PK' := Lib.hid pk'
    have HN' := Lib.hid hn'
    clear ad pk' hn' hz
    go_wp2_with fail
    refine C.out.mono ?_
    rintro e w5 ⟨rfl, L5, K5⟩
    have L5 := Lib.hid L5
    have S5 := Lib.hid (HS.out.kept K5 fun g hg => hg)
    clear C EV hc1 hgw HL HS K5
    have hcl := L5.out.base.cell HCELL.out
    have hgl := Nat.lt_of_lt_of_le HG.out L5.out.base.size
    have X5 := Lib.hid ((HEV.out.nw L5.out.base).src)
    rw [HN.out] at X5
    obtain ⟨i0, hi, hz0, hz1', hz2'⟩ := info_parts infoEv
    have HI := Lib.hid hi
    have HZ0' := Lib.hid hz0
    have HZ1 := Lib.hid hz1'
    have HZ2 := Lib.hid hz2'
    clear hi hz0 hz1' hz2'
    go_wp2_with (at_builtin; refine wpList_append_vec rfl _ _ 25 rfl 73 i0 (.agg #[.int .i64 0, .int .u8 0, .int .i64 0, .int .i64 0, .int .i64 0]) 5 40 Tryz.underlying25 HI.out HZ0'.out HZ1.out HZ2.out rfl (by decide) rfl rfl S5.out X5.out ?c1 ?c2 ?c3 ?_)
    case c1 => exact fun u hu => evV_one es u hu
    case c2 => unfold maxLen; omega
    case c3 => omega
    intro v5 w6 q5 q6 q7
    obtain ⟨ta, tc, rfl, -⟩ := q5.len
    have hlt5 := q5.lt
    have Q := Lib.hid (And.intro q5 (And.intro q6 (And.intro q7 hlt5)))
    clear q5 q6 q7 hlt5
    go_wp2_with fail
    go_roundw
    case rel =>
      have hl6 : HasL (fun j => (Value.slice ta (m + n) tc).ownBlock = some j) w w6 p b d' L' := L5.out.grow Q.out.2.1 (fun k hk _ => ⟨hk, HFR.out k hk⟩) (fun k hk => by
        rcases Q.out.2.2.1 with h | h
        · exact .inl (h ▸ hk)
        · exact .inr ⟨h k hk, Q.out.2.2.2 k hk⟩)
      refine ⟨k + 1, c + 1, m + n, d', L', all ++ es, by omega, by omega, by go_num, PK'.out, hl6, by rw [List.flatMap_append]; exact Q.out.1, by rw [List.length_append, HM.out, HN.out], by have h1 := HMN.out; have h2 := HN'.out; have h3 := HN.out; omega, by omega, fun g hg => ?_⟩
      rcases Q.out.2.2.1 with h | h
      · exact HFR.out g (h ▸ hg)
      · exact Nat.le_trans L5.out.base.size (h g hg)
    case measure => simp [intOf]; omega
end Go.Proofs.YtjapijndljknnaaGreatDoor
