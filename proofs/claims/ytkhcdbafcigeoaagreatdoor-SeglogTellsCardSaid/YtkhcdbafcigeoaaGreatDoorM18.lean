/-
  Texts merged by a program of this claim's: Ref01E, Ref01F, Ref01G, Ref05B, ReadD.
-/
import Derived.Test.YtkhcdbafcigeoaaGreatDoorM16
import Derived.Test.YtkhcdbafcigeoaaGreatDoorM17
import Derived.Test.YtkhcdbafcigeoaaGreatDoorM8
import Derived.Deep.DeepCutAuto
import Derived.Test.YtkhcdbafcigeoaaGreatDoorM10
import Derived.Test.YtkhcdbafcigeoaaGreatDoorM11
import Derived.Test.YtkhcdbafcigeoaaGreatDoorShelfS
/-
  The document's bytes (amanuensisref01), walked: Seal, Unseal, weighs, GetUint, GetBlob.
-/
namespace Go.Proofs.YtkhcdbafcigeoaaGreatDoor
open Go Go.RowKit Go.Sort
set_option maxRecDepth 100000
set_option maxHeartbeats 1600000
/-- The four bytes at the end, while they are laid from behind. -/
def sealT (c : Nat) : Nat → List UInt8
  | 0 => [0, 0, 0, 0]
  | 1 => [0, 0, 0, UInt8.ofNat c]
  | 2 => [0, 0, UInt8.ofNat (c / 256), UInt8.ofNat c]
  | 3 => [0, UInt8.ofNat (c / 65536), UInt8.ofNat (c / 256), UInt8.ofNat c]
  | _ => [UInt8.ofNat (c / 16777216), UInt8.ofNat (c / 65536), UInt8.ofNat (c / 256), UInt8.ofNat c]
theorem sealT_len (c j : Nat) : (sealT c j).length = 4 := by
  match j with
  | 0 => rfl
  | 1 => rfl
  | 2 => rfl
  | 3 => rfl
  | _ + 4 => rfl
theorem sealT_set (c : Nat) {j : Nat} (hj : j < 4) (l : List UInt8) : (l ++ sealT c j).set (l.length + (3 - j)) (UInt8.ofNat (c / 256 ^ j)) = l ++ sealT c (j + 1) := by
  rw [List.set_append_right _ _ (by omega)]
  congr 1
  rw [show l.length + (3 - j) - l.length = 3 - j by omega]
  match j, hj with
  | 0, _ => simp [sealT]
  | 1, _ => simp [sealT]
  | 2, _ => simp [sealT]
  | 3, _ => simp [sealT]
theorem rSeal_ok {w : World} {v : Value} {l : List UInt8} (hv : Bs w v l) (hl : l.length ≤ 14000000) :
    Calls Tryz.prog 65 #[v] w (NewB w (sealB sumB l)) := by
  obtain ⟨a, c, rfl, -⟩ := hv.len
  have n1 := (Nw.refl w).alloc (.cells #[.int .u8 0, .int .u8 0, .int .u8 0, .int .u8 0] 5 (0, 0))
  have R1 : Bs (w.alloc (.cells #[.int .u8 0, .int .u8 0, .int .u8 0, .int .u8 0] 5 (0, 0))) (.slice (some ⟨w.heap.size, 0, none⟩) 4 4) [0, 0, 0, 0] := rd_lit (f := u8) w 5 (0, 0) [0, 0, 0, 0] _ 4 rfl (by decide) (by decide)
  have AF := after_ok (hv.nw n1) R1 (by simp; omega)
  obtain ⟨L0, hL0⟩ : ∃ x, l ++ [0, 0, 0, 0] = x := ⟨_, rfl⟩
  rw [hL0] at AF
  have AF := Lib.hid AF
  have N1 := Lib.hid n1
  have HV := Lib.hid hv
  obtain ⟨n, hn⟩ : ∃ n, l.length = n := ⟨_, rfl⟩
  have HN := Lib.hid hn
  rw [hn] at hl HV AF ⊢
  have hL0n : L0.length = n + 4 := by rw [← hL0, List.length_append, hn]; rfl
  have HL0 := Lib.hid hL0
  have HL0N := Lib.hid hL0n
  obtain ⟨cr, hcr⟩ : ∃ x, crcN l = x := ⟨_, rfl⟩
  have hcrl : cr < 4294967296 := by rw [← hcr]; exact crcN_lt l
  have HCR := Lib.hid hcr
  clear hv n1 R1 hn hL0 hL0n hcr
  go_enter Tryz.func65, Tryz.ntmps65
  go_wp2_with fail
  refine AF.out.mono ?_
  rintro e w2 ⟨v2, rfl, b2, n2, f2⟩
  rw [HL0N.out] at b2
  obtain ⟨g, o, c2, rfl⟩ := own_some b2 (by omega)
  have B2 := Lib.hid b2
  have N2 := Lib.hid (N1.out.trans n2)
  have hg2 := f2 g rfl
  have hgw : w.heap.size ≤ g := Nat.le_trans N1.out.size hg2
  have CR := rCrc_ok (HV.out.nw N2.out) (by rw [HN.out]; omega)
  rw [HCR.out] at CR
  have CR := Lib.hid CR
  clear b2 n2 f2 AF hg2
  go_wp2_with fail
  refine CR.out.mono ?_
  rintro e w3 ⟨rfl, rfl⟩
  have hw1 : IntKind.i64.wrap (((n + 4 : Nat) : Int) - 1) = (n : Int) + 3 := by rw [show ((n + 4 : Nat) : Int) - 1 = (n : Int) + 3 by omega]; exact IntWalk.i64_in _ (by omega)
  have B0 : Hid (Vec 1 w2 (.slice (some ⟨g, o, none⟩) (n + 4) c2) (n + 4) ((l ++ sealT cr 0).map u8)) := Lib.hid (by rw [show l ++ sealT cr 0 = L0 from HL0.out]; exact B2.out)
  clear B2 CR
  go_wp2
  go_loopw [4, 5] (fun sv i wr => ∃ (j : Nat) (iv : Int) (sn : Nat), j ≤ 4 ∧ iv = (n : Int) + 3 - j ∧ i = .int .i64 iv ∧ sv = .int .u32 sn ∧ sn = cr / 256 ^ j ∧ Vec 1 wr (.slice (some ⟨g, o, none⟩) (n + 4) c2) (n + 4) ((l ++ sealT cr j).map u8) ∧ Nw w wr) (fun _ i _ => (intOf i - n + 1).toNat)
  case atStart => exact ⟨0, (n : Int) + 4 - 1, cr, by omega, by omega, rfl, rfl, by simp, B0.out, N2.out⟩
  case round =>
    clear hw1
    obtain ⟨j, iv, sn, hj, hiv, rfl, rfl, hsn, hvec, hnw⟩ := hrel
    have HV2 := Lib.hid hvec
    have HW := Lib.hid hnw
    have HIV := Lib.hid hiv
    have HSN := Lib.hid hsn
    clear hvec hnw
    by_cases h4 : j < 4
    case neg =>
      obtain rfl : j = 4 := by omega
      have hlt : ¬ (n : Int) ≤ iv := by omega
      clear hiv hsn
      go_wp2
      go_ret
      have hfin : sealB sumB l = l ++ sealT cr 4 := by rw [← HCR.out]; rfl
      refine ⟨.slice (some ⟨g, o, none⟩) (n + 4) c2, rfl, ?_, HW.out, fun x hx => by cases hx; exact hgw⟩
      rw [hfin, List.length_append, sealT_len, HN.out]
      exact HV2.out
    have hge : (n : Int) ≤ iv := by omega
    obtain ⟨k, hk⟩ : ∃ k : Nat, n + (3 - j) = k := ⟨_, rfl⟩
    obtain rfl : iv = (k : Int) := by omega
    have hkl : k < n + 4 := by omega
    obtain ⟨u, hc, -, hf⟩ := own1 HV2.out k (by omega)
    have hsl : sn < 4294967296 := by rw [hsn]; exact Nat.lt_of_le_of_lt (Nat.div_le_self _ _) hcrl
    have hq : (sn : Int) % 256 = ((sn % 256 : Nat) : Int) := by omega
    have hqq : ((sn % 256 : Nat) : Int) % 256 = ((sn % 256 : Nat) : Int) := by omega
    have hd : (sn : Int) / 256 = ((sn / 256 : Nat) : Int) := by omega
    have hwi : IntKind.i64.wrap ((k : Int) - 1) = (k : Int) - 1 := IntWalk.i64_in _ (by omega)
    have eu : (UInt8.ofNat sn).toNat = sn % 256 := by simp
    have HS1 : Hid (sn / 256 = cr / 256 ^ (j + 1)) := Lib.hid (by rw [hsn, Nat.div_div_eq_div_mul, Nat.pow_succ])
    have hset := sealT_set cr h4 l
    rw [HN.out, hk, ← hsn] at hset
    have HSET := Lib.hid hset
    obtain ⟨q, hqe⟩ : ∃ q, sn % 256 = q := ⟨_, rfl⟩
    obtain ⟨s2, hs2⟩ : ∃ q, sn / 256 = q := ⟨_, rfl⟩
    rw [hqe] at hq hqq eu
    rw [hs2] at hd HS1
    have V3 := HV2.out.set k (by rw [List.length_map, List.length_append, sealT_len, HN.out]; exact hkl) (.int .u8 q)
    have e3 : ((l ++ sealT cr j).map u8).set k (.int .u8 q) = (l ++ sealT cr (j + 1)).map u8 := by
      rw [← HSET.out, List.map_set]
      unfold u8
      rw [eu]
    rw [e3] at V3
    have n3 : Nw w (wr.setCell ⟨g, o + k, none⟩ (.int .u8 q)) := Only.setCell (S := fun _ => False) HW.out (fun h => absurd h (by simp only; omega)) _
    have V3 := Lib.hid V3
    have N3 := Lib.hid n3
    clear hiv hsn e3 n3 hset hqe hs2 eu
    go_wp2
    go_roundw
    case rel => exact ⟨j + 1, (k : Int) - 1, s2, by omega, by have := HIV.out; omega, by go_num, by go_num, HS1.out, V3.out, N3.out⟩
    case measure => have := HIV.out; simp [intOf]; omega
theorem rUnseal_ok {w : World} {v : Value} {l : List UInt8} (hv : Bs w v l) (hl : l.length ≤ 14000000) {r : List UInt8} {x : Int} (hr : unsealB l = (r, x)) :
    Calls Tryz.prog 70 #[v] w fun e w' => ∃ v', e = .returned (.tuple #[v', .int .i64 x]) ∧ Bs w' v' r ∧ Nw w w' := by
  obtain ⟨a, c, rfl, -⟩ := hv.len
  have HV := Lib.hid hv
  obtain ⟨n, hn⟩ : ∃ n, l.length = n := ⟨_, rfl⟩
  have HN := Lib.hid hn
  unfold unsealB at hr
  rw [hn] at hl hr HV ⊢
  clear hv hn
  by_cases h4 : n < 4
  · rw [if_pos h4] at hr
    obtain ⟨rfl, rfl⟩ : [] = r ∧ (11 : Int) = x := by simpa using hr
    clear hr
    go_enter Tryz.func70, Tryz.ntmps70
    go_wp2
    refine bodyPost_ret (v := .tuple #[.slice none 0 0, .int .i64 11]) (by simp [results, Tryz.results70, go_sem]) rfl ⟨_, rfl, .inl ⟨none, rfl, rfl⟩, Nw.refl _⟩
  rw [if_neg h4] at hr
  obtain ⟨m, hm⟩ : ∃ m, n - 4 = m := ⟨_, rfl⟩
  rw [hm] at hr
  obtain ⟨a1, c1, hb1, hl1, -, hsl⟩ := bs_h HV.out m (by omega)
  have hw1 : IntKind.i64.wrap ((n : Int) - 4) = (m : Int) := by rw [show (n : Int) - 4 = (m : Int) by omega]; exact IntWalk.i64_in _ (by omega)
  have AF := after_ok hb1 (.inl ⟨none, rfl, rfl⟩ : Bs w (.slice none 0 0) []) (by rw [hl1]; simp; omega)
  rw [List.append_nil] at AF
  obtain ⟨I, hI⟩ : ∃ x, l.take m = x := ⟨_, rfl⟩
  rw [hI] at AF hr hl1
  have AF := Lib.hid AF
  have HL1 := Lib.hid hl1
  have HR := Lib.hid hr
  clear hb1 hl1 hr hI
  go_enter Tryz.func70, Tryz.ntmps70
  go_wp2_with fail
  refine AF.out.mono ?_
  rintro e w2 h2
  obtain ⟨v2, rfl, b2, n2, -⟩ := h2.bs
  obtain ⟨a2, c2, rfl, -⟩ := b2.len
  have B2 := Lib.hid b2
  have N2 := Lib.hid n2
  obtain ⟨S, hS⟩ : ∃ x, sealB sumB I = x := ⟨_, rfl⟩
  obtain ⟨il, hil⟩ : ∃ x, I.length = x := ⟨_, rfl⟩
  rw [hil] at HL1 ⊢
  have BI : Hid (Bs w2 (.slice a2 il c2) I) := Lib.hid (by rw [← hil]; exact b2)
  have SE : Hid (∀ W, Nw w2 W → Calls Tryz.prog 65 #[.slice a2 il c2] W fun e w' => ∃ a c, e = .returned (.slice a S.length c) ∧ Bs w' (.slice a S.length c) S ∧ Nw W w') := Lib.hid (fun W hW => by
    have := rSeal_ok (BI.out.nw hW) (by rw [hil, HL1.out]; omega)
    rw [hS] at this
    refine this.mono fun e w' h => ?_
    obtain ⟨v, h1, h2, h3, -⟩ := h.bs
    obtain ⟨a, c, rfl, -⟩ := h2.len
    exact ⟨a, c, h1, h2, h3⟩)
  have BL : Hid (Bs w2 (.slice a n c) l) := Lib.hid (HV.out.nw n2)
  rw [hS] at HR
  clear h2 b2 n2 AF hsl hw1 hS hil
  go_upto_region 4 with fail
  refine us4 SE BL ?_
  intro s14 s15 s16 s17 s18 s19 w3 n3 h19
  subst h19
  have N3 := Lib.hid (N2.out.trans n3)
  have BI3 := Lib.hid (BI.out.nw n3)
  clear n3 BI SE BL
  by_cases he : S = l
  · have hb : (S == l) = true := by simpa using he
    rw [hb]
    clear hb
    have hr := HR.out
    rw [if_pos he] at hr
    obtain ⟨rfl, rfl⟩ : I = r ∧ (0 : Int) = x := by simpa using hr
    clear hr HR
    go_wp2
    refine bodyPost_ret (v := .tuple #[.slice a2 il c2, .int .i64 0]) (by simp [results, Tryz.results70, go_sem]) rfl ⟨_, rfl, BI3.out, N3.out⟩
  · have hb : (S == l) = false := by simpa using he
    rw [hb]
    clear hb
    have hr := HR.out
    rw [if_neg he] at hr
    obtain ⟨rfl, rfl⟩ : [] = r ∧ (12 : Int) = x := by simpa using hr
    clear hr HR
    go_wp2
    refine bodyPost_ret (v := .tuple #[.slice none 0 0, .int .i64 12]) (by simp [results, Tryz.results70, go_sem]) rfl ⟨_, rfl, .inl ⟨none, rfl, rfl⟩, N3.out⟩
theorem weighs_ok : ∀ (l : List UInt8) {w : World} {v : Value} (_ : Bs w v l), Calls Tryz.prog 131 #[v] w fun e w' => e = .returned (.int .u64 (weighsL l)) ∧ Nw w w'
  | [], w, v, hv => by
    obtain ⟨a, c, rfl, -⟩ := hv.len
    clear hv
    go_enter Tryz.func131, Tryz.ntmps131
    go_wp2
    go_ret
    exact ⟨rfl, Nw.refl _⟩
  | x :: l, w, v, hv => by
    obtain ⟨a, c, rfl, h1, h2, hel⟩ := hv.elems
    obtain ⟨g, o, rfl, hg, hc⟩ := hel 0 (by simp)
    obtain ⟨m, hm⟩ : ∃ m, l.length = m := ⟨_, rfl⟩
    obtain ⟨n, hn⟩ : ∃ n, (x :: l).length = n := ⟨_, rfl⟩
    have hnm : n = m + 1 := by rw [← hn, ← hm]; rfl
    obtain ⟨a1, c1, hb1, -, hsl⟩ := bs_l (n := n) (by rw [← hn]; exact hv) 1 (by omega) hn
    rw [show n - 1 = m by omega] at hb1 hsl
    have hb1 : Bs w (.slice a1 m c1) l := hb1
    rw [hn]
    have hc0 : w.cell? ⟨g, o, none⟩ = some (.int .u8 x.toNat) := hc
    obtain ⟨cb, hcb⟩ : ∃ z, x.toNat = z := ⟨_, rfl⟩
    have hcbl : cb < 256 := by rw [← hcb]; exact x.toNat_lt
    rw [hcb] at hc0
    obtain ⟨tl, htl⟩ : ∃ z, weighsL l = z := ⟨_, rfl⟩
    have htll : tl < 18446744073709551616 := by rw [← htl]; exact weighs_lt l
    have E : Hid (weighsL (x :: l) = (cb % 128 + 128 * tl) % 18446744073709551616) := Lib.hid (by rw [weighsL, hcb, htl])
    have CA : Hid (∀ W, Nw w W → Calls Tryz.prog 131 #[.slice a1 m c1] W fun e w' => e = .returned (.int .u64 tl) ∧ Nw W w') := Lib.hid (fun W hW => by
      have := weighs_ok l (hb1.nw hW)
      rw [htl] at this
      exact this)
    have h9 : Int.tmod (cb : Int) 128 = ((cb % 128 : Nat) : Int) := by rw [Int.tmod_eq_emod_of_nonneg (by omega)]; omega
    have h10 : IntKind.u64.wrap ((cb % 128 : Nat) : Int) = ((cb % 128 : Nat) : Int) := by rw [IntKind.wrap_u64]; omega
    have h14 : IntKind.u64.wrap (128 * (tl : Int)) = ((128 * tl % 18446744073709551616 : Nat) : Int) := by rw [IntKind.wrap_u64]; omega
    have h15 : IntKind.u64.wrap (((cb % 128 : Nat) : Int) + ((128 * tl % 18446744073709551616 : Nat) : Int)) = (((cb % 128 + 128 * tl) % 18446744073709551616 : Nat) : Int) := by rw [IntKind.wrap_u64]; omega
    have hn0 : ¬ n = 0 := by omega
    have hnb : ((n : Int) == 0) = false := by simp; omega
    have H9 := Lib.hid h9
    have H10 := Lib.hid h10
    have H14 := Lib.hid h14
    have H15 := Lib.hid h15
    have C0 := Lib.hid hc0
    have G0 := Lib.hid hg
    have SL := Lib.hid hsl
    rw [E.out]
    generalize cb % 128 = q at H9 H10 H15 ⊢
    clear hv h2 hel hc hm hn hb1 hsl hc0 hcb htl h9 h10 h14 h15
    go_enter Tryz.func131, Tryz.ntmps131
    go_upto_region 3 with fail
    refine wg3 (by omega) H9 H10 H14 H15 CA C0 G0 SL ?_
    intro s2 s6 s7 s8 s9 s10 s11 s12 s13 s14 s15 w3 n3 h2
    subst h2
    have N3 := Lib.hid n3
    clear n3
    go_wp2
    go_ret
    exact ⟨rfl, N3.out⟩
end Go.Proofs.YtkhcdbafcigeoaaGreatDoor

/-
  The document's bytes (amanuensisref01), walked: GetUint, GetBlob.
-/
namespace Go.Proofs.YtkhcdbafcigeoaaGreatDoor
open Go Go.RowKit Go.Sort
set_option maxRecDepth 100000
set_option maxHeartbeats 3200000
theorem varint_s (n : Nat) (hn : n < 18446744073709551616) (W : World) {S : List UInt8} (hS : uintB n = S) :
    Calls Tryz.prog 75 #[.int .u64 n] W fun e w' => ∃ a c, e = .returned (.slice a S.length c) ∧ Bs w' (.slice a S.length c) S ∧ Nw W w' := by
  subst hS
  refine (Varint_ok n hn W).mono fun e w' h => ?_
  obtain ⟨v, h1, h2, h3, -⟩ := h.bs
  obtain ⟨a, c, rfl, -⟩ := h2.len
  exact ⟨a, c, h1, h2, h3⟩
theorem rGetUint_ok {w : World} {v : Value} {b : List UInt8} (hv : Bs w v b) (hl : b.length ≤ 14000000) (at_ : Int) (h0 : -9223372036854775808 ≤ at_) (h1 : at_ ≤ 9223372036854775807) {n : Nat} {next e : Int} (hr : getU b at_ = (n, next, e)) :
    Calls Tryz.prog 71 #[v, .int .i64 at_] w fun z w' => z = .returned (.tuple #[.int .u64 n, .int .i64 next, .int .i64 e]) ∧ Nw w w' := by
  obtain ⟨a, c, rfl, -⟩ := hv.len
  obtain ⟨bl, hbl⟩ : ∃ x, b.length = x := ⟨_, rfl⟩
  unfold getU at hr
  rw [hbl] at hl hr hv ⊢
  by_cases hout : at_ < 0 ∨ (bl : Int) < at_
  · rw [if_pos hout] at hr
    obtain ⟨rfl, rfl, rfl⟩ : 0 = n ∧ (0 : Int) = next ∧ (2 : Int) = e := by simpa using hr
    clear hr hv hbl
    by_cases hn : at_ < 0
    · go_enter Tryz.func71, Tryz.ntmps71
      go_wp2
      refine bodyPost_ret (v := .tuple #[.int .u64 0, .int .i64 0, .int .i64 2]) (by simp [results, Tryz.results71, go_sem]) rfl ⟨rfl, Nw.refl _⟩
    · have hlt : (bl : Int) < at_ := by omega
      go_enter Tryz.func71, Tryz.ntmps71
      go_wp2
      refine bodyPost_ret (v := .tuple #[.int .u64 0, .int .i64 0, .int .i64 2]) (by simp [results, Tryz.results71, go_sem]) rfl ⟨rfl, Nw.refl _⟩
  rw [if_neg hout] at hr
  obtain ⟨at', rfl⟩ : ∃ k : Nat, at_ = k := ⟨at_.toNat, by omega⟩
  rw [Int.toNat_natCast] at hr
  have hat : at' ≤ bl := by omega
  obtain ⟨a1, c1, hb1, -, hsl⟩ := bs_l hv at' hat hbl
  obtain ⟨m, hm⟩ : ∃ m, bl - at' = m := ⟨_, rfl⟩
  obtain ⟨rest, hrest⟩ : ∃ x, b.drop at' = x := ⟨_, rfl⟩
  have hrl : rest.length = m := by rw [← hrest, List.length_drop, hbl, hm]
  rw [hm, hrest] at hb1
  rw [hm] at hsl
  rw [hrest] at hr
  have HR := Lib.hid hr
  have HRL := Lib.hid hrl
  have B1 := Lib.hid hb1
  have hml : m ≤ 14000000 := by omega
  have hno : ¬ (bl : Int) < (at' : Int) := by omega
  have hn0 : ¬ (at' : Int) < 0 := by omega
  clear hr hrl hb1 hv hbl hout hrest
  go_enter Tryz.func71, Tryz.ntmps71
  go_wp2
  go_loopw [8] (fun i wr => ∃ k : Nat, 1 ≤ k ∧ k ≤ 11 ∧ k ≤ m + 1 ∧ i = .int .i64 k ∧ Nw w wr ∧ ∀ j, 1 ≤ j → j < k → uintB (weighsL (rest.take j)) ≠ rest.take j) (fun i _ => 11 - (intOf i).toNat)
  case atStart => exact ⟨1, by omega, by omega, by omega, rfl, Nw.refl _, fun j h1 h2 => by omega⟩
  case round =>
    clear hsl
    obtain ⟨k, hk1, hk11, hkm, rfl, hw, hall⟩ := hrel
    have HW := Lib.hid hw
    have HA := Lib.hid hall
    clear hw hall
    by_cases hgo : k ≤ 10 ∧ k ≤ m
    case neg =>
      have hnone := get_none (rest := rest) (fun j h1 h2 h3 => HA.out j h1 (by
        rw [HRL.out] at h3
        rcases Nat.lt_or_ge j k with h | h
        · exact h
        · exact absurd ⟨by omega, by omega⟩ hgo))
      have hbeg := get_begin hnone
      obtain ⟨D, hD⟩ : ∃ x, rest ++ [1] = x := ⟨_, rfl⟩
      obtain ⟨dl, hdl⟩ : ∃ x, D.length = x := ⟨_, rfl⟩
      have hdm : dl = m + 1 := by rw [← hdl, ← hD, List.length_append, HRL.out]; rfl
      rw [hD, hdl] at hbeg
      have hr := HR.out
      have B1W := B1.out.nw HW.out
      have nn := (Nw.refl wr).alloc (.cells #[.int .u8 1] 5 (0, 0))
      have R1 : Bs (wr.alloc (.cells #[.int .u8 1] 5 (0, 0))) (.slice (some ⟨wr.heap.size, 0, none⟩) 1 1) [1] := rd_lit (f := Go.Proofs.YtkhcdbafcigeoaaGreatDoor.u8) wr 5 (0, 0) [1] _ 1 rfl (by decide) (by decide)
      have AF := after_ok (B1W.nw nn) R1 (by rw [HRL.out]; simp; omega)
      rw [hD] at AF
      have AF := Lib.hid AF
      have NN := Lib.hid (HW.out.trans nn)
      obtain ⟨vv, hvv⟩ : ∃ x, weighsL D = x := ⟨_, rfl⟩
      have hvl : vv < 18446744073709551616 := by rw [← hvv]; exact weighs_lt D
      obtain ⟨S, hS⟩ : ∃ x, uintB vv = x := ⟨_, rfl⟩
      rw [hvv, hS] at hbeg
      have HBEG := Lib.hid hbeg
      have HNONE := Lib.hid hnone
      have HVV := Lib.hid hvv
      have HS := Lib.hid hS
      have HDL := Lib.hid hdl
      have hend : ¬ (k ≤ 10 ∧ k ≤ m) := hgo
      have E2 : Hid ((numF 0 0 rest).2 = 0 → 0 = n ∧ (0 : Int) = next ∧ (11 : Int) = e) := Lib.hid (fun h => by
        rw [if_pos h] at hr; simpa using hr)
      have E3 : Hid ((numF 0 0 rest).2 ≠ 0 → 0 = n ∧ (0 : Int) = next ∧ (10 : Int) = e) := Lib.hid (fun h => by
        rw [if_neg h, if_pos (by omega)] at hr; simpa using hr)
      clear hr hnone hbeg hD hdl B1W nn R1 hvv hS HA HR hgo hdm
      have key : ∀ (tt : Bool), tt = false → True := fun _ _ => trivial
      clear key
      go_upto_region 5 with fail
      go_cut [29] (fun t wx => t = .bool false ∧ wx = wr)
      case first =>
        by_cases h10 : k ≤ 10
        · have hkm2 : ¬ k ≤ m := fun h => hend ⟨h10, h⟩
          have q1 : ¬ (10 : Int) < (k : Int) := by omega
          have q2 : (m : Int) < (k : Int) := by omega
          go_wp2_with fail
          go_meet
          case rel => exact ⟨by first | (simp; done) | (simp; omega), rfl⟩
        · have q1 : (10 : Int) < (k : Int) := by omega
          go_wp2_with fail
          go_meet
          case rel => exact ⟨by first | (simp; done) | (simp; omega), rfl⟩
      case rest =>
        obtain ⟨rfl, rfl⟩ := hcut
        go_wp2_with fail
        refine AF.out.mono ?_
        rintro z w3 h3
        obtain ⟨v3, rfl, b3, n3, -⟩ := h3.bs
        obtain ⟨a3, c3, rfl, -⟩ := b3.len
        rw [HDL.out] at b3 ⊢
        have B3 := Lib.hid b3
        have N3 := Lib.hid (NN.out.trans n3)
        have CW : Hid (∀ W, Nw w3 W → Calls Tryz.prog 131 #[.slice a3 dl c3] W fun e w' => e = .returned (.int .u64 vv) ∧ Nw W w') := Lib.hid (fun W hW => by
          have := weighs_ok D (B3.out.nw hW)
          rw [HVV.out] at this
          exact this)
        have CA := Lib.hid (fun W (_ : Nw w3 W) => varint_s vv hvl W HS.out)
        clear h3 b3 n3 AF
        go_upto_region 11 with fail
        by_cases hd : dl ≤ 10
        · refine gu11s CW CA B3 hd ?_
          intro s51 s52 s53 s54 s55 s56 s57 s58 s59 s60 s61 s62 w4 n4 h62
          subst h62
          have N4 := Lib.hid (N3.out.trans n4)
          clear n4 CW CA
          by_cases he : S = D
          · have hb : (S == D) = true := by simpa using he
            rw [hb]
            obtain ⟨rfl, rfl, rfl⟩ := E2.out (HBEG.out.1 ⟨hd, he⟩)
            clear hb he
            go_wp2
            refine bodyPost_ret (v := .tuple #[.int .u64 0, .int .i64 0, .int .i64 11]) (by simp [results, Tryz.results71, go_sem]) rfl ⟨rfl, N4.out⟩
          · have hb : (S == D) = false := by simpa using he
            rw [hb]
            obtain ⟨rfl, rfl, rfl⟩ := E3.out (fun h => he (HBEG.out.2 h).2)
            clear hb he
            go_wp2
            refine bodyPost_ret (v := .tuple #[.int .u64 0, .int .i64 0, .int .i64 10]) (by simp [results, Tryz.results71, go_sem]) rfl ⟨rfl, N4.out⟩
        · refine gu11l CW CA B3 hd ?_
          intro s51 s52 s53 s54 s55 s56 s57 s58 s59 s60 s61 s62 w4 n4 h62
          subst h62
          have N4 := Lib.hid (N3.out.trans n4)
          clear n4 CW CA
          obtain ⟨rfl, rfl, rfl⟩ := E3.out (fun h => hd (HBEG.out.2 h).1)
          go_wp2
          refine bodyPost_ret (v := .tuple #[.int .u64 0, .int .i64 0, .int .i64 10]) (by simp [results, Tryz.results71, go_sem]) rfl ⟨rfl, N4.out⟩
    obtain ⟨g1, g2⟩ := hgo
    obtain ⟨a2, c2, hb2, hl2, -, hsl2⟩ := bs_h (B1.out.nw HW.out) k g2
    have hx1 : ¬ (10 : Int) < (k : Int) := by omega
    obtain ⟨P, hP⟩ : ∃ x, rest.take k = x := ⟨_, rfl⟩
    rw [hP] at hb2 hl2
    obtain ⟨vv, hvv⟩ : ∃ x, weighsL P = x := ⟨_, rfl⟩
    have hvl : vv < 18446744073709551616 := by rw [← hvv]; exact weighs_lt P
    have WG := weighs_ok P hb2
    rw [hvv] at WG
    have WG := Lib.hid WG
    have HP := Lib.hid hP
    have HVV := Lib.hid hvv
    have B2 := Lib.hid hb2
    clear hb2 hP hvv
    go_wp2_with fail
    refine WG.out.mono ?_
    rintro z w3 ⟨rfl, n3⟩
    obtain ⟨S, hS⟩ : ∃ x, uintB vv = x := ⟨_, rfl⟩
    have CA := Lib.hid (fun W (_ : Nw w3 W) => varint_s vv hvl W hS)
    have B3 := Lib.hid (B2.out.nw n3)
    have SL := Lib.hid hsl2
    have HS := Lib.hid hS
    have N3 := Lib.hid (HW.out.trans n3)
    clear n3 hS hsl2 B2 WG
    go_upto_region 8 with fail
    refine gu8 CA B3 SL ?_
    intro s36 s37 s38 s39 s40 s41 s42 s43 w4 n4 h43
    subst h43
    have N4 := Lib.hid (N3.out.trans n4)
    clear n4 CA SL
    by_cases he : S = P
    · have hb : (S == P) = true := by simpa using he
      rw [hb]
      have hf := get_found (rest := rest) (k := k) (by rw [HRL.out]; exact g2) (by rw [HP.out, HVV.out, HS.out]; exact he)
      rw [HP.out, HVV.out] at hf
      have hr := HR.out
      rw [hf] at hr
      simp only at hr
      rw [if_neg (by omega), if_neg (by omega)] at hr
      obtain ⟨rfl, rfl, rfl⟩ : vv = n ∧ (at' : Int) + (k : Int) = next ∧ (0 : Int) = e := by simpa using hr
      have hwa : IntKind.i64.wrap ((at' : Int) + (k : Int)) = (at' : Int) + (k : Int) := IntWalk.i64_in _ (by omega)
      clear hb hf hr HR
      go_wp2
      refine bodyPost_ret (v := .tuple #[.int .u64 vv, .int .i64 ((at' : Int) + (k : Int)), .int .i64 0]) (by simp [results, Tryz.results71, go_sem]) rfl ⟨rfl, N4.out⟩
    · have hb : (S == P) = false := by simpa using he
      rw [hb]
      have HA2 : Hid (∀ j, 1 ≤ j → j < k + 1 → uintB (weighsL (rest.take j)) ≠ rest.take j) := Lib.hid (fun j h1 h2 => by
        by_cases hjk : j = k
        · subst hjk; rw [HP.out, HVV.out, HS.out]; exact he
        · exact HA.out j h1 (by omega))
      clear hb he
      go_wp2
      go_roundw
      case rel => exact ⟨k + 1, by omega, by omega, by omega, by go_num, N4.out, HA2.out⟩
      case measure => simp [intOf]; omega
end Go.Proofs.YtkhcdbafcigeoaaGreatDoor

/-
  The document's bytes (amanuensisref01), walked: GetBlob.
-/
namespace Go.Proofs.YtkhcdbafcigeoaaGreatDoor
open Go Go.RowKit Go.Sort
set_option maxRecDepth 100000
set_option maxHeartbeats 1600000
theorem rGetBlob_ok {w : World} {v : Value} {l : List UInt8} (hv : Bs w v l) (hl : l.length ≤ 14000000) (at_ most : Int) (ha0 : -9223372036854775808 ≤ at_) (ha1 : at_ ≤ 9223372036854775807) (hm0 : 0 ≤ most) (hm1 : most ≤ 1000000) {r : List UInt8} {x e : Int} (hr : getB l at_ most = (r, x, e)) :
    Calls Tryz.prog 72 #[v, .int .i64 at_, .int .i64 most] w fun y w' => ∃ v', y = .returned (.tuple #[v', .int .i64 x, .int .i64 e]) ∧ Bs w' v' r ∧ Nw w w' := by
  obtain ⟨a, cap, rfl, -⟩ := hv.len
  obtain ⟨⟨n0, x0, e0⟩, hu⟩ : ∃ y, getU l at_ = y := ⟨_, rfl⟩
  have HU := rGetUint_ok hv hl at_ ha0 ha1 hu
  have hf := getU_fine (b := l) (at_ := at_)
  unfold getB at hr
  rw [hu] at hf hr
  simp only at hf hr
  have HV := Lib.hid hv
  obtain ⟨n, hn⟩ : ∃ n, l.length = n := ⟨_, rfl⟩
  have HN := Lib.hid hn
  rw [hn] at hl HU HV hf hr ⊢
  have HU := Lib.hid HU
  clear hv hu hn ha0 ha1
  by_cases c0 : e0 = 0
  case neg =>
    rw [if_pos c0] at hr
    cases hr
    clear hf HV
    have q1 : (e != 0) = true := by simpa using c0
    go_enter Tryz.func72, Tryz.ntmps72
    go_wp2_with fail
    refine HU.out.mono ?_
    rintro z w2 ⟨rfl, n2⟩
    have N2 := Lib.hid n2
    clear n2
    go_wp2
    refine bodyPost_ret (v := .tuple #[.slice none 0 0, .int .i64 0, .int .i64 e]) (by simp [results, Tryz.results72, go_sem]) rfl ⟨_, rfl, .inl ⟨none, rfl, rfl⟩, N2.out⟩
  subst c0
  rw [if_neg (by simp)] at hr
  obtain ⟨-, f1, f2, f3⟩ := hf rfl
  have q1 : ((0 : Int) != 0) = false := rfl
  have qm : decide (most < 0) = false := by simpa using hm0
  have hmc : most % 18446744073709551616 = most := by omega
  by_cases c1 : most < (n0 : Int)
  · rw [if_pos c1] at hr
    cases hr
    have q2 : decide (most < (n0 : Int)) = true := by simpa using c1
    clear HV
    go_enter Tryz.func72, Tryz.ntmps72
    go_wp2_with fail
    refine HU.out.mono ?_
    rintro z w2 ⟨rfl, n2⟩
    have N2 := Lib.hid n2
    clear n2
    go_wp2
    refine bodyPost_ret (v := .tuple #[.slice none 0 0, .int .i64 0, .int .i64 3]) (by simp [results, Tryz.results72, go_sem]) rfl ⟨_, rfl, .inl ⟨none, rfl, rfl⟩, N2.out⟩
  rw [if_neg c1] at hr
  have q2 : decide (most < (n0 : Int)) = false := by simpa using c1
  obtain ⟨k, rfl⟩ : ∃ k : Nat, x0 = k := ⟨x0.toNat, by omega⟩
  rw [Int.toNat_natCast] at hr
  have hk : k ≤ n := by omega
  obtain ⟨lf, hlf⟩ : ∃ x, n - k = x := ⟨_, rfl⟩
  have hwl : IntKind.i64.wrap ((n : Int) - (k : Int)) = (lf : Int) := by rw [show (n : Int) - (k : Int) = (lf : Int) by omega]; exact IntWalk.i64_in _ (by omega)
  have hlc : (lf : Int) % 18446744073709551616 = (lf : Int) := by omega
  by_cases c2 : (n : Int) < (k : Int) + (n0 : Int)
  · rw [if_pos c2] at hr
    cases hr
    have q3 : decide ((lf : Int) < (n0 : Int)) = true := by simp; omega
    clear HV
    go_enter Tryz.func72, Tryz.ntmps72
    go_wp2_with fail
    refine HU.out.mono ?_
    rintro z w2 ⟨rfl, n2⟩
    have N2 := Lib.hid n2
    clear n2
    go_wp2
    refine bodyPost_ret (v := .tuple #[.slice none 0 0, .int .i64 0, .int .i64 11]) (by simp [results, Tryz.results72, go_sem]) rfl ⟨_, rfl, .inl ⟨none, rfl, rfl⟩, N2.out⟩
  rw [if_neg c2] at hr
  have q3 : ¬ lf < n0 := by omega
  have q4 : decide (lf < n0) = false := by simp; omega
  obtain ⟨a2, c2', hb2, hl2, -, t2⟩ := bs_lh HV.out k (k + n0) (by omega) (by omega)
  have hsub : k + n0 - k = n0 := by omega
  rw [hsub] at hb2 hl2 t2
  have hr1 : (l.drop k).take n0 = r ∧ (k : Int) + n0 = x ∧ 0 = e := by simpa using hr
  obtain ⟨hr1, rfl, rfl⟩ := hr1
  rw [hr1] at hb2 hl2
  have B2 := Lib.hid hb2
  have HL2 := Lib.hid hl2
  have hw : IntKind.i64.wrap ((k : Int) + (n0 : Int)) = (k : Int) + (n0 : Int) := IntWalk.i64_in _ (by omega)
  have hwk : IntKind.i64.wrap ((n : Int) - (lf : Int)) = (k : Int) := by rw [show (n : Int) - (lf : Int) = (k : Int) by omega]; exact IntWalk.i64_in _ (by omega)
  rw [Int.natCast_add] at t2
  have hw2 : IntKind.i64.wrap (n0 : Int) = (n0 : Int) := IntWalk.i64_in _ (by omega)
  have hn0l : n0 ≤ 14000000 := by omega
  have hnn : ¬ (n : Int) < (k : Int) + (n0 : Int) := c2
  clear hb2 hl2 HV hr hsub hr1 hf hlf c2 hnn
  go_enter Tryz.func72, Tryz.ntmps72
  go_wp2_with fail
  refine HU.out.mono ?_
  rintro z w2 ⟨rfl, n2⟩
  have AF := after_ok (.inl ⟨none, rfl, rfl⟩ : Bs w2 (.slice none 0 0) []) (B2.out.nw n2) (by rw [HL2.out]; simp; omega)
  rw [List.nil_append] at AF
  have AF := Lib.hid AF
  have N2 := Lib.hid n2
  clear n2
  go_wp2_with fail
  refine AF.out.mono ?_
  rintro z w3 h3
  obtain ⟨v3, rfl, b3, n3, -⟩ := h3.bs
  obtain ⟨a3, c3, rfl, -⟩ := b3.len
  have B3 := Lib.hid b3
  have N3 := Lib.hid (N2.out.trans n3)
  obtain ⟨rl, hrl⟩ : ∃ x, r.length = x := ⟨_, rfl⟩
  rw [hrl] at B3 ⊢
  clear h3 b3 n3 AF t2
  go_wp2
  refine bodyPost_ret (v := .tuple #[.slice a3 rl c3, .int .i64 ((k : Int) + (n0 : Int)), .int .i64 0]) (by simp [results, Tryz.results72, go_sem]) rfl ⟨_, rfl, B3.out, N3.out⟩
end Go.Proofs.YtkhcdbafcigeoaaGreatDoor

/-
  The document's manifest (amanuensisref05.Manifest), walked: it is manifestB.
-/
namespace Go.Proofs.YtkhcdbafcigeoaaGreatDoor
open Go Go.RowKit Go.Sort
set_option maxRecDepth 100000
set_option maxHeartbeats 3200000
/-- A buffer of bytes, new since w. -/
structure MB (w x : World) (v : Value) (l : List UInt8) : Prop where
  vec : Vec 1 x v l.length (l.map u8)
  nw : Nw w x
  new : ∀ g, v.ownBlock = some g → w.heap.size ≤ g
theorem MB.of {w x x' : World} {e : Ending} {l : List UInt8} (h : NewB x l e x') (hw : Nw w x) : ∃ a c, e = .returned (.slice a l.length c) ∧ MB w x' (.slice a l.length c) l := by
  obtain ⟨v, rfl, h2, h3, h4⟩ := h
  obtain ⟨a, c, rfl, -⟩ := h2.len
  exact ⟨a, c, rfl, h2, hw.trans h3, fun g hg => Nat.le_trans hw.size (h4 g hg)⟩
theorem MB.bs {w x : World} {v : Value} {l : List UInt8} (h : MB w x v l) : Bs x v l := h.vec.rd
theorem dManifest_no {w : World} {v : Value} {l : List Pc} (hv : Pcs w v l) (hr : rightL l = false) :
    Calls Tryz.prog 11 #[v] w fun e w' => e = .returned (.tuple #[.slice none 0 0, .int .i64 14]) ∧ Nw w w' := by
  have HV := Lib.hid hv
  obtain ⟨a, cap, rfl, hc, hm, -⟩ := hv.elem
  have HR := Lib.hid (dRight_ok hv)
  rw [hr] at HR
  clear hr hv
  go_enter Tryz.func11, Tryz.ntmps11
  go_wp2_with fail
  refine HR.out.mono ?_
  rintro e w1 ⟨rfl, n1⟩
  go_wp2
  refine bodyPost_ret (v := .tuple #[.slice none 0 0, .int .i64 14]) (by simp [results, Tryz.results11, go_sem]) rfl ⟨rfl, n1⟩
theorem dManifest_ok {w : World} {v : Value} {l : List Pc} (hv : Pcs w v l) (hr : rightL l = true) :
    Calls Tryz.prog 11 #[v] w (NewE w (manifestB l)) := by
  have HV := Lib.hid hv
  have HB := Lib.hid (rightL_bound hr)
  obtain ⟨a, cap, rfl, hc, hm, hel⟩ := hv.elem
  have HE := Lib.hid hel
  have HR := Lib.hid (dRight_ok hv)
  rw [hr] at HR
  clear hr hv hel
  obtain ⟨n, hn⟩ : ∃ n, l.length = n := ⟨_, rfl⟩
  have HN := Lib.hid hn
  rw [hn] at hc HR ⊢
  have hn100 : n ≤ 100 := by rw [← hn]; exact HB.out.2.1
  clear hn
  obtain ⟨i0, hi, hz0, hz1, hz2⟩ := info_parts infoU8
  have HI := Lib.hid hi
  have HZ0 := Lib.hid hz0
  have HZ1 := Lib.hid hz1
  have HZ2 := Lib.hid hz2
  clear hi hz0 hz1 hz2
  have hm64 : ((n : Nat) : Int) % 18446744073709551616 = n := by omega
  have hw64 : IntKind.u64.wrap (n : Int) = n := Go.wraps_u64 _ (by omega) (by omega)
  go_enter Tryz.func11, Tryz.ntmps11
  go_wp2_with fail
  refine HR.out.mono ?_
  rintro e w1 ⟨rfl, n1⟩
  have N1 := Lib.hid n1
  clear n1 HR
  have V0 := Lib.hid (vec_lit w1 5 1 4 (([65, 77, 77, 49] : List UInt8).map u8) _ (0, 0) rfl rfl (by decide) (fun j hj => by omega))
  have NA := Lib.hid (N1.out.trans ((Nw.refl w1).alloc (.cells (([65, 77, 77, 49] : List UInt8).map u8).toArray 5 (0, 0))))
  go_wp2_with fail
  refine (rUint_ok (l := [65, 77, 77, 49]) V0.out.rd n (by omega) (by decide)).mono ?_
  rintro e w2 q
  obtain ⟨b2, c2, rfl, M2⟩ := MB.of q NA.out
  have HU : Hid ((uintB n).length ≤ 10) := Lib.hid (uintB_len _ 10 (by omega) (Nat.lt_trans (show n < 2 ^ 64 by omega) (by decide)))
  have M := Lib.hid M2
  clear q M2 V0 NA
  obtain ⟨p0, hp0⟩ : ∃ p0 : List UInt8, p0 = [65, 77, 77, 49] ++ uintB n := ⟨_, rfl⟩
  rw [← hp0] at M
  have HP0 := Lib.hid hp0
  have hpl : p0.length ≤ 14 := by rw [hp0]; have := HU.out; simp only [List.length_append, List.length_cons, List.length_nil]; omega
  have hpe : ([65, 77, 77, 49] ++ uintB n : List UInt8).length = p0.length := by rw [hp0]
  clear hp0 HU
  simp only [hpe] at M ⊢
  clear hpe
  go_wp2
  go_loopw [4, 5] (fun b i wr => ∃ (k : Nat), k ≤ n ∧ i = .int .i64 k ∧ MB w wr b (p0 ++ (l.take k).flatMap pieceB)) (fun _ i _ => n - (intOf i).toNat)
  case atStart => exact ⟨0, by omega, rfl, by simpa using M.out⟩
  case round =>
    obtain ⟨k, hk, rfl, hb⟩ := hrel
    have hlen : (p0 ++ (l.take k).flatMap pieceB).length ≤ 14 + 62 * 100 := by
      have h4 := flat_len (l := l.take k) fun p hp => by
        obtain ⟨a, b, c, d, e⟩ := HB.out.2.2 p (List.mem_of_mem_take hp)
        exact pieceB_len a (by omega) (by omega)
      have : (l.take k).length ≤ 100 := by simp; omega
      rw [List.length_append]; omega
    have LN := Lib.hid hlen
    clear hlen
    by_cases hlt : k < n
    · have hkl : k < l.length := by rw [HN.out]; exact hlt
      obtain ⟨g, o, rfl, hg, c0, c1, c2, c3⟩ := HE.out k hkl
      obtain ⟨b1, b2, b3, b4, b5⟩ := HB.out.2.2 _ (List.getElem_mem hkl)
      have hpt : p0 ++ (l.take (k + 1)).flatMap pieceB = (p0 ++ (l.take k).flatMap pieceB) ++ pieceB l[k] := by rw [manifest_part hkl, List.append_assoc]
      obtain ⟨q0, hq0⟩ : ∃ q0, q0 = p0 ++ (l.take (k + 1)).flatMap pieceB := ⟨_, rfl⟩
      rw [← hq0] at hpt
      have HQ0 := Lib.hid hq0
      clear hq0
      generalize p0 ++ (l.take k).flatMap pieceB = p1 at *
      generalize hP : (l[k] : Pc) = P at *
      obtain ⟨pn, pf, pc, pd⟩ := P
      simp only at c0 c1 c2 c3 b1 b2 b3 b4 b5
      obtain ⟨sa, sc, rfl, -⟩ := hb.vec.len
      have V := Lib.hid hb
      have BD := Lib.hid (And.intro b1 (And.intro b2 (And.intro b3 (And.intro b4 b5))))
      have HPT := Lib.hid hpt
      obtain ⟨fn, rfl⟩ := Int.eq_ofNat_of_zero_le BD.out.2.1
      obtain ⟨cn, rfl⟩ := Int.eq_ofNat_of_zero_le BD.out.2.2.2.1
      have C := Lib.hid (And.intro c0 (And.intro c1 (And.intro c2 (And.intro c3 hg))))
      clear hb b1 b2 b3 b4 b5 hpt hP c0 c1 c2 c3 hg
      have hfn : fn < 1152921504606846976 := by have := BD.out.2.2.1; omega
      have hcn : cn ≤ 1099511627776 := by have := BD.out.2.2.2.2; omega
      have hnl : pn.length ≤ 40 := by
        have := (okPiece_name BD.out.1).1
        simp only [okName, Bool.and_eq_true, decide_eq_true_eq] at this
        exact this.1.2
      have hf64 : IntKind.u64.wrap (fn : Int) = fn := Go.wraps_u64 _ (by omega) (by omega)
      have hc64 : IntKind.u64.wrap (cn : Int) = cn := Go.wraps_u64 _ (by omega) (by omega)
      have d0 := V.out.nw.cell C.out.1
      have hg' := Nat.lt_of_lt_of_le C.out.2.2.2.2 V.out.nw.size
      have cv : (convert 9 23 (.string ⟨pn.toArray⟩)).run Tryz.prog wr = .ok (.slice (some ⟨wr.heap.size, 0, none⟩) pn.length (grownCap wr pn.length 0 5)) (Lib.bytesWorld wr 5 ⟨pn.toArray⟩) := Lib.run_convert_string_bytes (P := Tryz.prog) wr 9 23 5 ⟨pn.toArray⟩ Tryz.underlying9 Tryz.underlying23 Tryz.underlying5
      have hcv := Vec.of_conv wr 5 pn (by unfold maxLen; omega)
      generalize Lib.bytesWorld wr 5 ⟨pn.toArray⟩ = W3 at cv hcv
      generalize grownCap wr pn.length 0 5 = cc at cv hcv
      have HCV := Lib.hid hcv
      clear hcv
      go_upto_region 7 with fail
      go_wp2_with fail
      refine (rBlob_ok (V.out.bs.nw HCV.out.2) HCV.out.1.rd (by have := LN.out; omega)).mono ?_
      clear cv d0
      rintro e w4 q
      have hbl : (p1 ++ (uintB pn.length ++ pn)).length ≤ 14 + 62 * 100 + 50 := by
        have h1 := LN.out
        have h2 := uintB_len pn.length 1 (by omega) (by omega)
        simp only [List.length_append]; omega
      have hpt2 : q0 = (p1 ++ (uintB pn.length ++ pn)) ++ (uintB fn ++ (uintB cn ++ [if pd then 1 else 0])) := by rw [HPT.out]; simp [pieceB, blobB]
      have QQ := Lib.hid q
      clear q
      generalize p1 ++ (uintB pn.length ++ pn) = p2 at QQ hbl hpt2
      obtain ⟨xa, xc, rfl, M4⟩ := MB.of QQ.out (V.out.nw.trans HCV.out.2)
      have LN2 := Lib.hid hbl
      have HPT2 := Lib.hid hpt2
      have V4 := Lib.hid M4
      clear hbl hpt2 M4 QQ HCV V
      have d1 := V4.out.nw.cell C.out.2.1
      have hg' := Nat.lt_of_lt_of_le C.out.2.2.2.2 V4.out.nw.size
      go_wp2_with fail
      refine (rUint_ok V4.out.bs fn (by omega) (by have := LN2.out; omega)).mono ?_
      clear d1
      rintro e w5 q
      have hbl : (p2 ++ uintB fn).length ≤ 14 + 62 * 100 + 60 := by
        have h1 := LN2.out
        have h2 := uintB_len fn 10 (by omega) (Nat.lt_trans (show fn < 2 ^ 64 by omega) (by decide))
        simp only [List.length_append]; omega
      have hpt2 : q0 = (p2 ++ uintB fn) ++ (uintB cn ++ [if pd then 1 else 0]) := by rw [HPT2.out]; simp
      have QQ := Lib.hid q
      clear q HPT2 LN2
      generalize p2 ++ uintB fn = p3 at QQ hbl hpt2
      obtain ⟨ya, yc, rfl, M5⟩ := MB.of QQ.out V4.out.nw
      have LN2 := Lib.hid hbl
      have HPT2 := Lib.hid hpt2
      have V5 := Lib.hid M5
      clear hbl hpt2 M5 QQ V4
      have d2 := V5.out.nw.cell C.out.2.2.1
      have hg' := Nat.lt_of_lt_of_le C.out.2.2.2.2 V5.out.nw.size
      go_wp2_with fail
      refine (rUint_ok V5.out.bs cn (by omega) (by have := LN2.out; omega)).mono ?_
      clear d2
      rintro e w6 q
      have hbl : (p3 ++ uintB cn).length ≤ 14 + 62 * 100 + 70 := by
        have h1 := LN2.out
        have h2 := uintB_len cn 10 (by omega) (Nat.lt_trans (show cn < 2 ^ 64 by omega) (by decide))
        simp only [List.length_append]; omega
      have hpt2 : q0 = (p3 ++ uintB cn) ++ [if pd then 1 else 0] := by rw [HPT2.out]; simp
      have QQ := Lib.hid q
      clear q HPT2 LN2
      generalize p3 ++ uintB cn = p4 at QQ hbl hpt2
      obtain ⟨za, zc, rfl, M6⟩ := MB.of QQ.out V5.out.nw
      have LN2 := Lib.hid hbl
      have HPT2 := Lib.hid hpt2
      have V6 := Lib.hid M6
      clear hbl hpt2 M6 QQ V5
      have d3 := V6.out.nw.cell C.out.2.2.2.1
      have hg' := Nat.lt_of_lt_of_le C.out.2.2.2.2 V6.out.nw.size
      obtain ⟨dn, hdn, hdn2⟩ : ∃ dn : UInt8, dn = (if pd then 1 else 0) ∧ (dn = 0 ∨ dn = 1) := ⟨_, rfl, by cases pd <;> simp⟩
      rw [← hdn] at HPT2
      have V7 := Lib.hid (V6.out.vec.nw ((Nw.refl w6).alloc (.cells #[u8 dn] 5 (0, 0))))
      have S7 := Lib.hid (src_lit w6 5 (0, 0) 1 1 1 [u8 dn] rfl (by omega) (by decide))
      have hrest : ∀ v' w', Vec 1 w' v' (p4.length + 1) (p4.map u8 ++ [u8 dn]) → Only (fun k => (Value.slice za p4.length zc).ownBlock = some k) (w6.alloc (.cells #[u8 dn] 5 (0, 0))) w' →
          (v'.ownBlock = (Value.slice za p4.length zc).ownBlock ∨ ∀ g, v'.ownBlock = some g → (w6.alloc (.cells #[u8 dn] 5 (0, 0))).heap.size ≤ g) → MB w w' v' q0 := fun v' w' e1 e2 e3 => by
        refine ⟨by rw [HPT2.out, List.map_append, List.length_append]; exact e1, (V6.out.nw.alloc _).trans' e2 (fun k hk hc => by have := V6.out.new k hc; omega), fun g hg => ?_⟩
        rcases e3 with h | h
        · exact V6.out.new g (h ▸ hg)
        · have h1 := h g hg
          have h2 := V6.out.nw.size
          simp only [World.size_alloc] at h1
          omega
      have HREST := Lib.hid hrest
      clear hrest
      cases pd
      case false =>
        obtain rfl : dn = 0 := hdn
        have e8 : u8 0 = .int .u8 0 := rfl
        rw [e8] at V7 S7 HREST
        go_wp2_with (at_builtin; refine wpList_append_vec rfl _ _ 23 rfl 5 i0 (.int .u8 0) 1 1 Tryz.underlying23 HI.out HZ0.out HZ1.out HZ2.out rfl (by decide) rfl rfl V7.out S7.out ?c1 ?c2 ?c3 ?_)
        case c1 => intro u hu; rw [List.mem_singleton] at hu; subst hu; rfl
        case c2 => have := LN2.out; unfold maxLen; omega
        case c3 => have := LN2.out; omega
        intro v8 w8 f1 f2 f3
        have F := Lib.hid (HREST.out v8 w8 f1 f2 (by rw [World.size_alloc]; exact f3))
        clear f1 f2 f3 d3
        go_wp2
        go_roundw
        case rel => exact ⟨k + 1, by omega, by go_num, by rw [← HQ0.out]; exact F.out⟩
        case measure => simp only [intOf]; omega
      case true =>
        obtain rfl : dn = 1 := hdn
        have e8 : u8 1 = .int .u8 1 := rfl
        rw [e8] at V7 S7 HREST
        go_wp2_with (at_builtin; refine wpList_append_vec rfl _ _ 23 rfl 5 i0 (.int .u8 0) 1 1 Tryz.underlying23 HI.out HZ0.out HZ1.out HZ2.out rfl (by decide) rfl rfl V7.out S7.out ?c1 ?c2 ?c3 ?_)
        case c1 => intro u hu; rw [List.mem_singleton] at hu; subst hu; rfl
        case c2 => have := LN2.out; unfold maxLen; omega
        case c3 => have := LN2.out; omega
        intro v8 w8 f1 f2 f3
        have F := Lib.hid (HREST.out v8 w8 f1 f2 (by rw [World.size_alloc]; exact f3))
        clear f1 f2 f3 d3
        go_wp2
        go_roundw
        case rel => exact ⟨k + 1, by omega, by go_num, by rw [← HQ0.out]; exact F.out⟩
        case measure => simp only [intOf]; omega
    · obtain rfl : k = n := by omega
      have hall : l.take k = l := by rw [← HN.out]; exact List.take_length
      rw [hall] at hb
      have HMI : Hid (p0 ++ l.flatMap pieceB = manifestIn l) := Lib.hid (by rw [HP0.out]; unfold manifestIn; rw [HN.out])
      rw [HMI.out] at hb
      have hlen : (manifestIn l).length ≤ 14 + 62 * 100 := by have := LN.out; rw [hall, HMI.out] at this; exact this
      have HMB : Hid (manifestB l = sealB sumB (manifestIn l)) := Lib.hid rfl
      obtain ⟨sa, sc, rfl, -⟩ := hb.vec.len
      have V := Lib.hid hb
      clear hb hall HMI
      generalize manifestIn l = mi at *
      go_wp2_with fail
      refine (rSeal_ok V.out.bs (by omega)).mono ?_
      rintro e w4 ⟨v4, rfl, q1, q2, q3⟩
      rw [← HMB.out] at q1
      obtain ⟨xa, xc, rfl, -⟩ := q1.len
      have Q := Lib.hid (And.intro q1 (And.intro q2 q3))
      clear q1 q2 q3
      go_wp2
      refine bodyPost_ret (v := .tuple #[.slice xa (manifestB l).length xc, .int .i64 0]) (by simp [results, Tryz.results11, go_sem]) rfl ⟨_, rfl, Q.out.1, V.out.nw.trans Q.out.2.1, fun g hg => Nat.le_trans V.out.nw.size (Q.out.2.2 g hg)⟩
end Go.Proofs.YtkhcdbafcigeoaaGreatDoor

/-
  Package segment, walked: head, Scan.
-/
namespace Go.Proofs.YtkhcdbafcigeoaaGreatDoor
open Go Go.RowKit Go.Sort
set_option maxRecDepth 100000
set_option maxHeartbeats 1600000

theorem HP_ok (s p : List UInt8) (w : World) : Calls Tryz.prog 67 #[.string ⟨s.toArray⟩, .string ⟨p.toArray⟩] w fun e w' => e = .returned (.bool (decide (p <+: s))) ∧ w = w' := by
  refine (Tryz.strings_HasPrefix ⟨s.toArray⟩ ⟨p.toArray⟩ w).mono ?_
  rintro e w' ⟨rfl, rfl⟩
  refine ⟨?_, rfl⟩
  have : Lib.hasPrefix s p = decide (p <+: s) := by
    unfold Lib.hasPrefix
    rw [Bool.eq_iff_iff, List.isPrefixOf_iff_prefix, decide_eq_true_iff]
  show Ending.returned (.bool (Lib.hasPrefix s p)) = _
  rw [this]
end Go.Proofs.YtkhcdbafcigeoaaGreatDoor
