/-
  Texts merged by a program of this claim's: Ref01E, Ref01F, Ref01G, Ref05B, ReadD.
-/
import Derived.Test.YtkhcdbafcigeoaaGreatDoorM16
import Derived.Test.YtkhcdbafcigeoaaGreatDoorM17
import Derived.Test.YtkhcdbafcigeoaaGreatDoorM8
import Derived.Deep.DeepCutAuto
import Derived.Test.YtkhcdbafcigeoaaGreatDoorM10
import Derived.Test.YtkhcdbafcigeoaaGreatDoorM11
import Derived.Test.YtkhcdbafcigeoaaGreatDoorShelfS
namespace Go.Proofs.YtkhcdbafcigeoaaGreatDoor
open Go Go.RowKit Go.Sort
set_option maxRecDepth 100000
set_option maxHeartbeats 1600000
def sealT (c : Nat) : Nat → List UInt8
  | 0 => [0, 0, 0, 0]
  | 1 => [0, 0, 0, UInt8.ofNat c]
  | 2 => [0, 0, UInt8.ofNat (c / 256), UInt8.ofNat c]
  | 3 => [0, UInt8.ofNat (c / 65536), UInt8.ofNat (c / 256), UInt8.ofNat c]
  | _ => [UInt8.ofNat (c / 16777216), UInt8.ofNat (c / 65536), UInt8.ofNat (c / 256), UInt8.ofNat c]
theorem sealT_len (c j : Nat) : (sealT c j).length = 4 := by
  match j with
  | 0 => rfl
  | 1 => rfl
  | 2 => rfl
  | 3 => rfl
  | _ + 4 => rfl
theorem sealT_set (c : Nat) {j : Nat} (hj : j < 4) (l : List UInt8) : (l ++ sealT c j).set (l.length + (3 - j)) (UInt8.ofNat (c / 256 ^ j)) = l ++ sealT c (j + 1) := by
  rw [List.set_append_right _ _ (by omega)]
  congr 1
  rw [show l.length + (3 - j) - l.length = 3 - j by omega]
  match j, hj with
  | 0, _ => simp [sealT]
  | 1, _ => simp [sealT]
  | 2, _ => simp [sealT]
  | 3, _ => simp [sealT]
theorem rSeal_ok {w : World} {v : Value} {l : List UInt8} (hv : Bs w v l) (hl : l.length ≤ 14000000) :
    Calls Tryz.prog 65 #[v] w (NewB w (sealB sumB l)) := by
  obtain ⟨a, c, rfl, -⟩ := hv.len
  have n1 := (Nw.refl w).alloc (.cells #[.int .u8 0, .int .u8 0, .int .u8 0, .int .u8 0] 5 (0, 0))
  have R1 : Bs (w.alloc (.cells #[.int .u8 0, .int .u8 0, .int .u8 0, .int .u8 0] 5 (0, 0))) (.slice (some ⟨w.heap.size, 0, none⟩) 4 4) [0, 0, 0, 0] := rd_lit (f := u8) w 5 (0, 0) [0, 0, 0, 0] _ 4 rfl (by decide) (by decide)
  have AF := after_ok (hv.nw n1) R1 (by simp; omega)
  obtain ⟨L0, hL0⟩ : ∃ x, l ++ [0, 0, 0, 0] = x := ⟨_, rfl⟩
  rw [hL0] at AF
  have AF := Lib.hid AF
  have N1 := Lib.hid n1
  have HV := Lib.hid hv
  obtain ⟨n, hn⟩ : ∃ n, l.length = n := ⟨_, rfl⟩
  have HN := Lib.hid hn
  rw [hn] at hl HV AF ⊢
  have hL0n : L0.length = n + 4 := by rw [← hL0, List.length_append, hn]; rfl
  have HL0 := Lib.hid hL0
  have HL0N := Lib.hid hL0n
  obtain ⟨cr, hcr⟩ : ∃ x, crcN l = x := ⟨_, rfl⟩
  have hcrl : cr < 4294967296 := by rw [← hcr]; exact crcN_lt l
  have HCR := Lib.hid hcr
  clear hv n1 R1 hn hL0 hL0n hcr
  go_enter Tryz.func65, Tryz.ntmps65
  go_wp2_with fail
  refine AF.out.mono ?_
  rintro e w2 ⟨v2, rfl, b2, n2, f2⟩
  rw [HL0N.out] at b2
  obtain ⟨g, o, c2, rfl⟩ := own_some b2 (by omega)
  have B2 := Lib.hid b2
  have N2 := Lib.hid (N1.out.trans n2)
  have hg2 := f2 g rfl
  have hgw : w.heap.size ≤ g := Nat.le_trans N1.out.size hg2
  have CR := rCrc_ok (HV.out.nw N2.out) (by rw [HN.out]; omega)
  rw [HCR.out] at CR
  have CR := Lib.hid CR
  clear b2 n2 f2 AF hg2
  go_wp2_with fail
  refine CR.out.mono ?_
  rintro e w3 ⟨rfl, rfl⟩
  have hw1 : IntKind.i64.wrap (((n + 4 : Nat) : Int) - 1) = (n : Int) + 3 := by rw [show ((n + 4 : Nat) : Int) - 1 = (n : Int) + 3 by omega]; exact IntWalk.i64_in _ (by omega)
  have B0 : Hid (Vec 1 w2 (.slice (some ⟨g, o, none⟩) (n + 4) c2) (n + 4) ((l ++ sealT cr 0).map u8)) := Lib.hid (by rw [show l ++ sealT cr 0 = L0 from HL0.out]; exact B2.out)
  clear B2 CR
  go_wp2
  go_loopw [4, 5] (fun sv i wr => ∃ (j : Nat) (iv : Int) (sn : Nat), j ≤ 4 ∧ iv = (n : Int) + 3 - j ∧ i = .int .i64 iv ∧ sv = .int .u32 sn ∧ sn = cr / 256 ^ j ∧ Vec 1 wr (.slice (some ⟨g, o, none⟩) (n + 4) c2) (n + 4) ((l ++ sealT cr j).map u8) ∧ Nw w wr) (fun _ i _ => (intOf i - n + 1).toNat)
  case atStart => exact ⟨0, (n : Int) + 4 - 1, cr, by omega, by omega, rfl, rfl, by simp, B0.out, N2.out⟩
  case round =>
    clear hw1
    obtain ⟨j, iv, sn, hj, hiv, rfl, rfl, hsn, hvec, hnw⟩ := hrel
    have HV2 := Lib.hid hvec
    have HW := Lib.hid hnw
    have HIV := Lib.hid hiv
    have HSN := Lib.hid hsn
    clear hvec hnw
    by_cases h4 : j < 4
    case neg =>
      obtain rfl : j = 4 := by omega
      have hlt : ¬ (n : Int) ≤ iv := by omega
      clear hiv hsn
      go_wp2
      go_ret
      have hfin : sealB sumB l = l ++ sealT cr 4 := by rw [← HCR.out]; rfl
      refine ⟨.slice (some ⟨g, o, none⟩) (n + 4) c2, rfl, ?_, HW.out, fun x hx => by cases hx; exact hgw⟩
      rw [hfin, List.length_append, sealT_len, HN.out]
      exact HV2.out
    have hge : (n : Int) ≤ iv := by omega
    obtain ⟨k, hk⟩ : ∃ k : Nat, n + (3 - j) = k := ⟨_, rfl⟩
    obtain rfl : iv = (k : Int) := by omega
    have hkl : k < n + 4 := by omega
    obtain ⟨u, hc, -, hf⟩ := own1 HV2.out k (by omega)
    have hsl : sn < 4294967296 := by rw [hsn]; exact Nat.lt_of_le_of_lt (Nat.div_le_self _ _) hcrl
    have hq : (sn : Int) % 256 = ((sn % 256 : Nat) : Int) := by omega
    have hqq : ((sn % 256 : Nat) : Int) % 256 = ((sn % 256 : Nat) : Int) := by omega
    have hd : (sn : Int) / 256 = ((sn / 256 : Nat) : Int) := by omega
    have hwi : IntKind.i64.wrap ((k : Int) - 1) = (k : Int) - 1 := IntWalk.i64_in _ (by omega)
    have eu : (UInt8.ofNat sn).toNat = sn % 256 := by simp
    have HS1 : Hid (sn / 256 = cr / 256 ^ (j + 1)) := Lib.hid (by rw [hsn, Nat.div_div_eq_div_mul, Nat.pow_succ])
    have hset := sealT_set cr h4 l
    rw [HN.out, hk, ← hsn] at hset
    have HSET := Lib.hid hset
    obtain ⟨q, hqe⟩ : ∃ q, sn % 256 = q := ⟨_, rfl⟩
    obtain ⟨s2, hs2⟩ : ∃ q, sn / 256 = q := ⟨_, rfl⟩
    rw [hqe] at hq hqq eu
    rw [hs2] at hd HS1
    have V3 := HV2.out.set k (by rw [List.length_map, List.length_append, sealT_len, HN.out]; exact hkl) (.int .u8 q)
    have e3 : ((l ++ sealT cr j).map u8).set k (.int .u8 q) = (l ++ sealT cr (j + 1)).map u8 := by
      rw [← HSET.out, List.map_set]
      unfold u8
      rw [eu]
    rw [e3] at V3
    have n3 : Nw w (wr.setCell ⟨g, o + k, none⟩ (.int .u8 q)) := Only.setCell (S := fun _ => False) HW.out (fun h => absurd h (by simp only; omega)) _
    have V3 := Lib.hid V3
    have N3 := Lib.hid n3
    clear hiv hsn e3 n3 hset hqe hs2 eu
    go_wp2
    go_roundw
    case rel => exact ⟨j + 1, (k : Int) - 1, s2, by omega, by have := HIV.out; omega, by go_num, by go_num, HS1.out, V3.out, N3.out⟩
    case measure => have := HIV.out; simp [intOf]; omega
end Go.Proofs.YtkhcdbafcigeoaaGreatDoor

namespace Go.Proofs.YtkhcdbafcigeoaaGreatDoor
open Go Go.RowKit Go.Sort
set_option maxRecDepth 100000
set_option maxHeartbeats 3200000
end Go.Proofs.YtkhcdbafcigeoaaGreatDoor

namespace Go.Proofs.YtkhcdbafcigeoaaGreatDoor
open Go Go.RowKit Go.Sort
set_option maxRecDepth 100000
set_option maxHeartbeats 1600000
end Go.Proofs.YtkhcdbafcigeoaaGreatDoor

namespace Go.Proofs.YtkhcdbafcigeoaaGreatDoor
open Go Go.RowKit Go.Sort
set_option maxRecDepth 100000
set_option maxHeartbeats 3200000
structure MB (w x : World) (v : Value) (l : List UInt8) : Prop where
  vec : Vec 1 x v l.length (l.map u8)
  nw : Nw w x
  new : ∀ g, v.ownBlock = some g → w.heap.size ≤ g
theorem MB.of {w x x' : World} {e : Ending} {l : List UInt8} (h : NewB x l e x') (hw : Nw w x) : ∃ a c, e = .returned (.slice a l.length c) ∧ MB w x' (.slice a l.length c) l := by
  obtain ⟨v, rfl, h2, h3, h4⟩ := h
  obtain ⟨a, c, rfl, -⟩ := h2.len
  exact ⟨a, c, rfl, h2, hw.trans h3, fun g hg => Nat.le_trans hw.size (h4 g hg)⟩
theorem MB.bs {w x : World} {v : Value} {l : List UInt8} (h : MB w x v l) : Bs x v l := h.vec.rd
theorem dManifest_ok {w : World} {v : Value} {l : List Pc} (hv : Pcs w v l) (hr : rightL l = true) :
    Calls Tryz.prog 11 #[v] w (NewE w (manifestB l)) := by
  have HV := Lib.hid hv
  have HB := Lib.hid (rightL_bound hr)
  obtain ⟨a, cap, rfl, hc, hm, hel⟩ := hv.elem
  have HE := Lib.hid hel
  have HR := Lib.hid (dRight_ok hv)
  rw [hr] at HR
  clear hr hv hel
  obtain ⟨n, hn⟩ : ∃ n, l.length = n := ⟨_, rfl⟩
  have HN := Lib.hid hn
  rw [hn] at hc HR ⊢
  have hn100 : n ≤ 100 := by rw [← hn]; exact HB.out.2.1
  clear hn
  obtain ⟨i0, hi, hz0, hz1, hz2⟩ := info_parts infoU8
  have HI := Lib.hid hi
  have HZ0 := Lib.hid hz0
  have HZ1 := Lib.hid hz1
  have HZ2 := Lib.hid hz2
  clear hi hz0 hz1 hz2
  have hm64 : ((n : Nat) : Int) % 18446744073709551616 = n := by omega
  have hw64 : IntKind.u64.wrap (n : Int) = n := Go.wraps_u64 _ (by omega) (by omega)
  go_enter Tryz.func11, Tryz.ntmps11
  go_wp2_with fail
  refine HR.out.mono ?_
  rintro e w1 ⟨rfl, n1⟩
  have N1 := Lib.hid n1
  clear n1 HR
  have V0 := Lib.hid (vec_lit w1 5 1 4 (([65, 77, 77, 49] : List UInt8).map u8) _ (0, 0) rfl rfl (by decide) (fun j hj => by omega))
  have NA := Lib.hid (N1.out.trans ((Nw.refl w1).alloc (.cells (([65, 77, 77, 49] : List UInt8).map u8).toArray 5 (0, 0))))
  go_wp2_with fail
  refine (rUint_ok (l := [65, 77, 77, 49]) V0.out.rd n (by omega) (by decide)).mono ?_
  rintro e w2 q
  obtain ⟨b2, c2, rfl, M2⟩ := MB.of q NA.out
  have HU : Hid ((uintB n).length ≤ 10) := Lib.hid (uintB_len _ 10 (by omega) (Nat.lt_trans (show n < 2 ^ 64 by omega) (by decide)))
  have M := Lib.hid M2
  clear q M2 V0 NA
  obtain ⟨p0, hp0⟩ : ∃ p0 : List UInt8, p0 = [65, 77, 77, 49] ++ uintB n := ⟨_, rfl⟩
  rw [← hp0] at M
  have HP0 := Lib.hid hp0
  have hpl : p0.length ≤ 14 := by rw [hp0]; have := HU.out; simp only [List.length_append, List.length_cons, List.length_nil]; omega
  have hpe : ([65, 77, 77, 49] ++ uintB n : List UInt8).length = p0.length := by rw [hp0]
  clear hp0 HU
  simp only [hpe] at M ⊢
  clear hpe
  go_wp2
  go_loopw [4, 5] (fun b i wr => ∃ (k : Nat), k ≤ n ∧ i = .int .i64 k ∧ MB w wr b (p0 ++ (l.take k).flatMap pieceB)) (fun _ i _ => n - (intOf i).toNat)
  case atStart => exact ⟨0, by omega, rfl, by simpa using M.out⟩
  case round =>
    obtain ⟨k, hk, rfl, hb⟩ := hrel
    have hlen : (p0 ++ (l.take k).flatMap pieceB).length ≤ 14 + 62 * 100 := by
      have h4 := flat_len (l := l.take k) fun p hp => by
        obtain ⟨a, b, c, d, e⟩ := HB.out.2.2 p (List.mem_of_mem_take hp)
        exact pieceB_len a (by omega) (by omega)
      have : (l.take k).length ≤ 100 := by simp; omega
      rw [List.length_append]; omega
    have LN := Lib.hid hlen
    clear hlen
    by_cases hlt : k < n
    · have hkl : k < l.length := by rw [HN.out]; exact hlt
      obtain ⟨g, o, rfl, hg, c0, c1, c2, c3⟩ := HE.out k hkl
      obtain ⟨b1, b2, b3, b4, b5⟩ := HB.out.2.2 _ (List.getElem_mem hkl)
      have hpt : p0 ++ (l.take (k + 1)).flatMap pieceB = (p0 ++ (l.take k).flatMap pieceB) ++ pieceB l[k] := by rw [manifest_part hkl, List.append_assoc]
      obtain ⟨q0, hq0⟩ : ∃ q0, q0 = p0 ++ (l.take (k + 1)).flatMap pieceB := ⟨_, rfl⟩
      rw [← hq0] at hpt
      have HQ0 := Lib.hid hq0
      clear hq0
      generalize p0 ++ (l.take k).flatMap pieceB = p1 at *
      generalize hP : (l[k] : Pc) = P at *
      obtain ⟨pn, pf, pc, pd⟩ := P
      simp only at c0 c1 c2 c3 b1 b2 b3 b4 b5
      obtain ⟨sa, sc, rfl, -⟩ := hb.vec.len
      have V := Lib.hid hb
      have BD := Lib.hid (And.intro b1 (And.intro b2 (And.intro b3 (And.intro b4 b5))))
      have HPT := Lib.hid hpt
      obtain ⟨fn, rfl⟩ := Int.eq_ofNat_of_zero_le BD.out.2.1
      obtain ⟨cn, rfl⟩ := Int.eq_ofNat_of_zero_le BD.out.2.2.2.1
      have C := Lib.hid (And.intro c0 (And.intro c1 (And.intro c2 (And.intro c3 hg))))
      clear hb b1 b2 b3 b4 b5 hpt hP c0 c1 c2 c3 hg
      have hfn : fn < 1152921504606846976 := by have := BD.out.2.2.1; omega
      have hcn : cn ≤ 1099511627776 := by have := BD.out.2.2.2.2; omega
      have hnl : pn.length ≤ 40 := by
        have := (okPiece_name BD.out.1).1
        simp only [okName, Bool.and_eq_true, decide_eq_true_eq] at this
        exact this.1.2
      have hf64 : IntKind.u64.wrap (fn : Int) = fn := Go.wraps_u64 _ (by omega) (by omega)
      have hc64 : IntKind.u64.wrap (cn : Int) = cn := Go.wraps_u64 _ (by omega) (by omega)
      have d0 := V.out.nw.cell C.out.1
      have hg' := Nat.lt_of_lt_of_le C.out.2.2.2.2 V.out.nw.size
      have cv : (convert 9 23 (.string ⟨pn.toArray⟩)).run Tryz.prog wr = .ok (.slice (some ⟨wr.heap.size, 0, none⟩) pn.length (grownCap wr pn.length 0 5)) (Lib.bytesWorld wr 5 ⟨pn.toArray⟩) := Lib.run_convert_string_bytes (P := Tryz.prog) wr 9 23 5 ⟨pn.toArray⟩ Tryz.underlying9 Tryz.underlying23 Tryz.underlying5
      have hcv := Vec.of_conv wr 5 pn (by unfold maxLen; omega)
      generalize Lib.bytesWorld wr 5 ⟨pn.toArray⟩ = W3 at cv hcv
      generalize grownCap wr pn.length 0 5 = cc at cv hcv
      have HCV := Lib.hid hcv
      clear hcv
      go_upto_region 7 with fail
      go_wp2_with fail
      refine (rBlob_ok (V.out.bs.nw HCV.out.2) HCV.out.1.rd (by have := LN.out; omega)).mono ?_
      clear cv d0
      rintro e w4 q
      have hbl : (p1 ++ (uintB pn.length ++ pn)).length ≤ 14 + 62 * 100 + 50 := by
        have h1 := LN.out
        have h2 := uintB_len pn.length 1 (by omega) (by omega)
        simp only [List.length_append]; omega
      have hpt2 : q0 = (p1 ++ (uintB pn.length ++ pn)) ++ (uintB fn ++ (uintB cn ++ [if pd then 1 else 0])) := by rw [HPT.out]; simp [pieceB, blobB]
      have QQ := Lib.hid q
      clear q
      generalize p1 ++ (uintB pn.length ++ pn) = p2 at QQ hbl hpt2
      obtain ⟨xa, xc, rfl, M4⟩ := MB.of QQ.out (V.out.nw.trans HCV.out.2)
      have LN2 := Lib.hid hbl
      have HPT2 := Lib.hid hpt2
      have V4 := Lib.hid M4
      clear hbl hpt2 M4 QQ HCV V
      have d1 := V4.out.nw.cell C.out.2.1
      have hg' := Nat.lt_of_lt_of_le C.out.2.2.2.2 V4.out.nw.size
      go_wp2_with fail
      refine (rUint_ok V4.out.bs fn (by omega) (by have := LN2.out; omega)).mono ?_
      clear d1
      rintro e w5 q
      have hbl : (p2 ++ uintB fn).length ≤ 14 + 62 * 100 + 60 := by
        have h1 := LN2.out
        have h2 := uintB_len fn 10 (by omega) (Nat.lt_trans (show fn < 2 ^ 64 by omega) (by decide))
        simp only [List.length_append]; omega
      have hpt2 : q0 = (p2 ++ uintB fn) ++ (uintB cn ++ [if pd then 1 else 0]) := by rw [HPT2.out]; simp
      have QQ := Lib.hid q
      clear q HPT2 LN2
      generalize p2 ++ uintB fn = p3 at QQ hbl hpt2
      obtain ⟨ya, yc, rfl, M5⟩ := MB.of QQ.out V4.out.nw
      have LN2 := Lib.hid hbl
      have HPT2 := Lib.hid hpt2
      have V5 := Lib.hid M5
      clear hbl hpt2 M5 QQ V4
      have d2 := V5.out.nw.cell C.out.2.2.1
      have hg' := Nat.lt_of_lt_of_le C.out.2.2.2.2 V5.out.nw.size
      go_wp2_with fail
      refine (rUint_ok V5.out.bs cn (by omega) (by have := LN2.out; omega)).mono ?_
      clear d2
      rintro e w6 q
      have hbl : (p3 ++ uintB cn).length ≤ 14 + 62 * 100 + 70 := by
        have h1 := LN2.out
        have h2 := uintB_len cn 10 (by omega) (Nat.lt_trans (show cn < 2 ^ 64 by omega) (by decide))
        simp only [List.length_append]; omega
      have hpt2 : q0 = (p3 ++ uintB cn) ++ [if pd then 1 else 0] := by rw [HPT2.out]; simp
      have QQ := Lib.hid q
      clear q HPT2 LN2
      generalize p3 ++ uintB cn = p4 at QQ hbl hpt2
      obtain ⟨za, zc, rfl, M6⟩ := MB.of QQ.out V5.out.nw
      have LN2 := Lib.hid hbl
      have HPT2 := Lib.hid hpt2
      have V6 := Lib.hid M6
      clear hbl hpt2 M6 QQ V5
      have d3 := V6.out.nw.cell C.out.2.2.2.1
      have hg' := Nat.lt_of_lt_of_le C.out.2.2.2.2 V6.out.nw.size
      obtain ⟨dn, hdn, hdn2⟩ : ∃ dn : UInt8, dn = (if pd then 1 else 0) ∧ (dn = 0 ∨ dn = 1) := ⟨_, rfl, by cases pd <;> simp⟩
      rw [← hdn] at HPT2
      have V7 := Lib.hid (V6.out.vec.nw ((Nw.refl w6).alloc (.cells #[u8 dn] 5 (0, 0))))
      have S7 := Lib.hid (src_lit w6 5 (0, 0) 1 1 1 [u8 dn] rfl (by omega) (by decide))
      have hrest : ∀ v' w', Vec 1 w' v' (p4.length + 1) (p4.map u8 ++ [u8 dn]) → Only (fun k => (Value.slice za p4.length zc).ownBlock = some k) (w6.alloc (.cells #[u8 dn] 5 (0, 0))) w' →
          (v'.ownBlock = (Value.slice za p4.length zc).ownBlock ∨ ∀ g, v'.ownBlock = some g → (w6.alloc (.cells #[u8 dn] 5 (0, 0))).heap.size ≤ g) → MB w w' v' q0 := fun v' w' e1 e2 e3 => by
        refine ⟨by rw [HPT2.out, List.map_append, List.length_append]; exact e1, (V6.out.nw.alloc _).trans' e2 (fun k hk hc => by have := V6.out.new k hc; omega), fun g hg => ?_⟩
        rcases e3 with h | h
        · exact V6.out.new g (h ▸ hg)
        · have h1 := h g hg
          have h2 := V6.out.nw.size
          simp only [World.size_alloc] at h1
          omega
      have HREST := Lib.hid hrest
      clear hrest
      cases pd
      case false =>
        obtain rfl : dn = 0 := hdn
        have e8 : u8 0 = .int .u8 0 := rfl
        rw [e8] at V7 S7 HREST
        go_wp2_with (at_builtin; refine wpList_append_vec rfl _ _ 23 rfl 5 i0 (.int .u8 0) 1 1 Tryz.underlying23 HI.out HZ0.out HZ1.out HZ2.out rfl (by decide) rfl rfl V7.out S7.out ?c1 ?c2 ?c3 ?_)
        case c1 => intro u hu; rw [List.mem_singleton] at hu; subst hu; rfl
        case c2 => have := LN2.out; unfold maxLen; omega
        case c3 => have := LN2.out; omega
        intro v8 w8 f1 f2 f3
        have F := Lib.hid (HREST.out v8 w8 f1 f2 (by rw [World.size_alloc]; exact f3))
        clear f1 f2 f3 d3
        go_wp2
        go_roundw
        case rel => exact ⟨k + 1, by omega, by go_num, by rw [← HQ0.out]; exact F.out⟩
        case measure => simp only [intOf]; omega
      case true =>
        obtain rfl : dn = 1 := hdn
        have e8 : u8 1 = .int .u8 1 := rfl
        rw [e8] at V7 S7 HREST
        go_wp2_with (at_builtin; refine wpList_append_vec rfl _ _ 23 rfl 5 i0 (.int .u8 0) 1 1 Tryz.underlying23 HI.out HZ0.out HZ1.out HZ2.out rfl (by decide) rfl rfl V7.out S7.out ?c1 ?c2 ?c3 ?_)
        case c1 => intro u hu; rw [List.mem_singleton] at hu; subst hu; rfl
        case c2 => have := LN2.out; unfold maxLen; omega
        case c3 => have := LN2.out; omega
        intro v8 w8 f1 f2 f3
        have F := Lib.hid (HREST.out v8 w8 f1 f2 (by rw [World.size_alloc]; exact f3))
        clear f1 f2 f3 d3
        go_wp2
        go_roundw
        case rel => exact ⟨k + 1, by omega, by go_num, by rw [← HQ0.out]; exact F.out⟩
        case measure => simp only [intOf]; omega
    · obtain rfl : k = n := by omega
      have hall : l.take k = l := by rw [← HN.out]; exact List.take_length
      rw [hall] at hb
      have HMI : Hid (p0 ++ l.flatMap pieceB = manifestIn l) := Lib.hid (by rw [HP0.out]; unfold manifestIn; rw [HN.out])
      rw [HMI.out] at hb
      have hlen : (manifestIn l).length ≤ 14 + 62 * 100 := by have := LN.out; rw [hall, HMI.out] at this; exact this
      have HMB : Hid (manifestB l = sealB sumB (manifestIn l)) := Lib.hid rfl
      obtain ⟨sa, sc, rfl, -⟩ := hb.vec.len
      have V := Lib.hid hb
      clear hb hall HMI
      generalize manifestIn l = mi at *
      go_wp2_with fail
      refine (rSeal_ok V.out.bs (by omega)).mono ?_
      rintro e w4 ⟨v4, rfl, q1, q2, q3⟩
      rw [← HMB.out] at q1
      obtain ⟨xa, xc, rfl, -⟩ := q1.len
      have Q := Lib.hid (And.intro q1 (And.intro q2 q3))
      clear q1 q2 q3
      go_wp2
      refine bodyPost_ret (v := .tuple #[.slice xa (manifestB l).length xc, .int .i64 0]) (by simp [results, Tryz.results11, go_sem]) rfl ⟨_, rfl, Q.out.1, V.out.nw.trans Q.out.2.1, fun g hg => Nat.le_trans V.out.nw.size (Q.out.2.2 g hg)⟩
end Go.Proofs.YtkhcdbafcigeoaaGreatDoor

namespace Go.Proofs.YtkhcdbafcigeoaaGreatDoor
open Go Go.RowKit Go.Sort
set_option maxRecDepth 100000
set_option maxHeartbeats 1600000

theorem HP_ok (s p : List UInt8) (w : World) : Calls Tryz.prog 67 #[.string ⟨s.toArray⟩, .string ⟨p.toArray⟩] w fun e w' => e = .returned (.bool (decide (p <+: s))) ∧ w = w' := by
  refine (Tryz.strings_HasPrefix ⟨s.toArray⟩ ⟨p.toArray⟩ w).mono ?_
  rintro e w' ⟨rfl, rfl⟩
  refine ⟨?_, rfl⟩
  have : Lib.hasPrefix s p = decide (p <+: s) := by
    unfold Lib.hasPrefix
    rw [Bool.eq_iff_iff, List.isPrefixOf_iff_prefix, decide_eq_true_iff]
  show Ending.returned (.bool (Lib.hasPrefix s p)) = _
  rw [this]
theorem shead_ok {w : World} {v : Value} {l : List UInt8} (hv : Bs w v l) (hl : l.length ≤ 90000000) {n x e : Int} (hr : headR l = (n, x, e)) :
    Calls Tryz.prog 201 #[v] w fun z w' => z = .returned (.tuple #[.int .i64 n, .int .i64 x, .int .i64 e]) ∧ Nw w w' := by
  obtain ⟨a, cap, rfl, h1, h2, -⟩ := hv.elems
  have HV := Lib.hid hv
  clear h1 h2 hv
  by_cases c4 : l.length < 4
  · obtain ⟨a', c', hb, hlen, s1, s2⟩ := bs_h HV.out l.length (Nat.le_refl _)
    rw [List.take_length] at hb
    have k1 := conv_str hb
    obtain ⟨⟨n0, x0, e0⟩, hu⟩ : ∃ y, getU l l.length = y := ⟨_, rfl⟩
    have HU := Lib.hid (GetUint_ok HV.out l.length ⟨by omega, by omega⟩ hu)
    have hmn : min (l.length : Int) 4 = (l.length : Int) := by omega
    have HP := Lib.hid (HP_ok plainS l w)
    unfold headR at hr
    rw [List.take_of_length_le (by omega)] at hr
    clear hb hu hlen
    by_cases hp : l <+: plainS
    case neg =>
      rw [if_pos hp] at hr
      obtain ⟨rfl, rfl, rfl⟩ : 0 = n ∧ 0 = x ∧ 10 = e := by simpa using hr
      rw [show decide (l <+: plainS) = false by simpa using hp] at HP
      clear hr
      go_enter Tryz.func201, Tryz.ntmps201
      go_wp2_with fail
      refine HP.out.mono ?_
      rintro z w' ⟨rfl, rfl⟩
      go_wp2
      refine bodyPost_ret (v := .tuple #[.int .i64 0, .int .i64 0, .int .i64 10]) (by simp [results, Tryz.results201, go_sem]) rfl ⟨rfl, Nw.refl _⟩
    case pos =>
      rw [if_neg (by simpa using hp), if_pos c4] at hr
      obtain ⟨rfl, rfl, rfl⟩ : 0 = n ∧ 0 = x ∧ 11 = e := by simpa using hr
      rw [show decide (l <+: plainS) = true by simpa using hp] at HP
      clear hr
      go_enter Tryz.func201, Tryz.ntmps201
      go_wp2_with fail
      refine HP.out.mono ?_
      rintro z w' ⟨rfl, rfl⟩
      go_wp2_with fail
      refine HU.out.mono ?_
      rintro z w' ⟨rfl, rfl⟩
      go_wp2
      refine bodyPost_ret (v := .tuple #[.int .i64 0, .int .i64 0, .int .i64 11]) (by simp [results, Tryz.results201, go_sem]) rfl ⟨rfl, Nw.refl _⟩
  obtain ⟨a', c', hb, hlen, s1, s2⟩ := bs_h HV.out 4 (by omega)
  rw [show ((4 : Nat) : Int) = 4 from rfl] at s1 s2
  have k1 := conv_str hb
  obtain ⟨⟨n0, x0, e0⟩, hu⟩ : ∃ y, getU l 4 = y := ⟨_, rfl⟩
  have HU := Lib.hid (GetUint_ok HV.out 4 ⟨by omega, by omega⟩ hu)
  have hf := getU_fine (b := l) (at_ := 4)
  have hmn : min (l.length : Int) 4 = 4 := by omega
  have HP := Lib.hid (HP_ok plainS (l.take 4) w)
  unfold headR at hr
  rw [hu] at hf hr
  simp only at hf hr
  clear hb hu hlen
  by_cases hp : l.take 4 <+: plainS
  case neg =>
    rw [if_pos hp] at hr
    obtain ⟨rfl, rfl, rfl⟩ : 0 = n ∧ 0 = x ∧ 10 = e := by simpa using hr
    rw [show decide (l.take 4 <+: plainS) = false by simpa using hp] at HP
    clear hr hf
    go_enter Tryz.func201, Tryz.ntmps201
    go_wp2_with fail
    refine HP.out.mono ?_
    rintro z w' ⟨rfl, rfl⟩
    go_wp2
    refine bodyPost_ret (v := .tuple #[.int .i64 0, .int .i64 0, .int .i64 10]) (by simp [results, Tryz.results201, go_sem]) rfl ⟨rfl, Nw.refl _⟩
  rw [if_neg (by simpa using hp), if_neg c4] at hr
  rw [show decide (l.take 4 <+: plainS) = true by simpa using hp] at HP
  clear hp
  by_cases c0 : e0 = 0
  case neg =>
    have q1 : (e0 == 0) = false := by simpa using c0
    have q2 : (e0 != 0) = true := by simpa using c0
    rw [if_neg (fun h => c0 h.1), if_pos c0] at hr
    obtain ⟨rfl, rfl, rfl⟩ : 0 = n ∧ 0 = x ∧ e0 = e := by simpa using hr
    clear hr hf
    go_enter Tryz.func201, Tryz.ntmps201
    go_wp2_with fail
    refine HP.out.mono ?_
    rintro z w' ⟨rfl, rfl⟩
    go_wp2_with fail
    refine HU.out.mono ?_
    rintro z w' ⟨rfl, rfl⟩
    go_wp2
    refine bodyPost_ret (v := .tuple #[.int .i64 0, .int .i64 0, .int .i64 e0]) (by simp [results, Tryz.results201, go_sem]) rfl ⟨rfl, Nw.refl _⟩
  subst c0
  obtain ⟨-, f1, f2, f3⟩ := hf rfl
  obtain ⟨k, rfl⟩ : ∃ k : Nat, x0 = k := ⟨x0.toNat, by omega⟩
  clear hf
  by_cases c1 : 4611686018427387904 < n0
  · have q1 : decide ((4611686018427387904 : Int) < (n0 : Int)) = true := by simp; omega
    rw [if_pos ⟨rfl, c1⟩] at hr
    obtain ⟨rfl, rfl, rfl⟩ : 0 = n ∧ 0 = x ∧ 10 = e := by simpa using hr
    clear hr
    go_enter Tryz.func201, Tryz.ntmps201
    go_wp2_with fail
    refine HP.out.mono ?_
    rintro z w' ⟨rfl, rfl⟩
    go_wp2_with fail
    refine HU.out.mono ?_
    rintro z w' ⟨rfl, rfl⟩
    go_wp2
    refine bodyPost_ret (v := .tuple #[.int .i64 0, .int .i64 0, .int .i64 10]) (by simp [results, Tryz.results201, go_sem]) rfl ⟨rfl, Nw.refl _⟩
  have q1 : decide ((4611686018427387904 : Int) < (n0 : Int)) = false := by simp; omega
  rw [if_neg (fun h => c1 h.2), if_neg (by simp)] at hr
  have hw : IntKind.i64.wrap ((k : Int) + 4) = (k : Int) + 4 := IntWalk.i64_in _ (by omega)
  by_cases c2 : (l.length : Int) < (k : Int) + 4
  · have q2 : decide ((l.length : Int) < (k : Int) + 4) = true := by simpa using c2
    rw [if_pos c2] at hr
    obtain ⟨rfl, rfl, rfl⟩ : 0 = n ∧ 0 = x ∧ 11 = e := by simpa using hr
    clear hr
    go_enter Tryz.func201, Tryz.ntmps201
    go_wp2_with fail
    refine HP.out.mono ?_
    rintro z w' ⟨rfl, rfl⟩
    go_wp2_with fail
    refine HU.out.mono ?_
    rintro z w' ⟨rfl, rfl⟩
    go_wp2
    refine bodyPost_ret (v := .tuple #[.int .i64 0, .int .i64 0, .int .i64 11]) (by simp [results, Tryz.results201, go_sem]) rfl ⟨rfl, Nw.refl _⟩
  have q2 : decide ((l.length : Int) < (k : Int) + 4) = false := by simpa using c2
  rw [if_neg c2] at hr
  obtain ⟨a2, c2', hb2, hl2, t1, t2⟩ := bs_h HV.out (k + 4) (by omega)
  rw [show ((k + 4 : Nat) : Int) = (k : Int) + 4 by omega] at t1 t2
  simp only [Int.toNat_natCast] at hr
  obtain ⟨⟨u, e1⟩, hun⟩ : ∃ y, unsealB (l.take (k + 4)) = y := ⟨_, rfl⟩
  have HUN := Lib.hid (Unseal_ok hb2 (by omega) hun)
  rw [hun] at hr
  simp only at hr
  have hw3 : IntKind.i64.wrap (n0 : Int) = (n0 : Int) := IntWalk.i64_in _ (by omega)
  clear hb2 hl2 hun HV
  by_cases c3 : e1 = 0
  case neg =>
    have q3 : (e1 != 0) = true := by simpa using c3
    rw [if_pos c3] at hr
    obtain ⟨rfl, rfl, rfl⟩ : 0 = n ∧ 0 = x ∧ e1 = e := by simpa using hr
    clear hr hw3
    go_enter Tryz.func201, Tryz.ntmps201
    go_wp2_with fail
    refine HP.out.mono ?_
    rintro z w' ⟨rfl, rfl⟩
    go_wp2_with fail
    refine HU.out.mono ?_
    rintro z w' ⟨rfl, rfl⟩
    go_wp2_with fail
    refine HUN.out.mono ?_
    rintro z w1 ⟨v1, rfl, -, n1⟩
    have N1 := Lib.hid n1
    clear n1
    go_wp2
    refine bodyPost_ret (v := .tuple #[.int .i64 0, .int .i64 0, .int .i64 e1]) (by simp [results, Tryz.results201, go_sem]) rfl ⟨rfl, N1.out⟩
  subst c3
  rw [if_neg (by simp)] at hr
  obtain ⟨rfl, rfl, rfl⟩ : (n0 : Int) = n ∧ (k : Int) + 4 = x ∧ 0 = e := by simpa using hr
  clear hr
  go_enter Tryz.func201, Tryz.ntmps201
  go_wp2_with fail
  refine HP.out.mono ?_
  rintro z w' ⟨rfl, rfl⟩
  go_wp2_with fail
  refine HU.out.mono ?_
  rintro z w' ⟨rfl, rfl⟩
  go_wp2_with fail
  refine HUN.out.mono ?_
  rintro z w1 ⟨v1, rfl, -, n1⟩
  have N1 := Lib.hid n1
  clear n1
  go_wp2
  refine bodyPost_ret (v := .tuple #[.int .i64 n0, .int .i64 ((k : Int) + 4), .int .i64 0]) (by simp [results, Tryz.results201, go_sem]) rfl ⟨rfl, N1.out⟩
theorem evsFrom_place : ∀ (b : List UInt8) (n : Nat) (at_ : Int) (x : Ev) (acc l : List Ev) (to_ : Int), evsFrom b n at_ x acc = some (l, to_) → at_ + n ≤ to_
  | _, 0, at_, x, acc, l, to_, h => by
    simp only [evsFrom, Option.some.injEq, Prod.mk.injEq] at h
    omega
  | b, n + 1, at_, x, acc, l, to_, h => by
    unfold evsFrom at h
    split at h
    · cases h
    · rename_i he
      have hx := getE_fine (b := b) (at_ := at_) (x := x) (by rcases Decidable.em ((getE b at_ x).2.2 = 0) with h | h; exact h; exact absurd h he)
      have := evsFrom_place b n _ _ _ _ _ h
      omega
theorem eventsB_len {b : List UInt8} (h : (eventsB b).2 = true) : (eventsB b).1.length ≤ b.length := by
  unfold eventsB at h ⊢
  split
  · rename_i h0; rw [if_pos h0] at h; cases h
  · rename_i h0
    rw [if_neg h0] at h
    have hu := getU_fine (b := b) (at_ := 0) (by rcases Decidable.em ((getU b 0).2.2 = 0) with h | h; exact h; exact absurd (.inl h) h0)
    cases hc : evsFrom b (getU b 0).1 (getU b 0).2.1 Ev.zero [] with
    | none => rw [hc] at h; cases h
    | some r =>
      obtain ⟨l, to_⟩ := r
      have h1 := evsFrom_fine _ _ _ _ _ _ hc (fun _ h => by cases h)
      have h2 := evsFrom_place _ _ _ _ _ _ _ hc
      rw [hc] at h
      simp only [decide_eq_true_eq] at h
      have h3 := h1.2
      simp only [List.length_nil, Nat.zero_add] at h3
      simp only
      omega
theorem readFr_len {b : List UInt8} {at_ : Int} (h : (readFr b at_).2.2 = 0) : ((readFr b at_).1.length : Int) ≤ (readFr b at_).2.1 - at_ := by
  unfold readFr at h ⊢
  split
  · rename_i h0; rw [if_pos h0] at h; exact absurd h h0
  · rename_i h0
    rw [if_neg h0] at h
    have hu := getU_fine (b := b) (at_ := at_) (by rcases Decidable.em ((getU b at_).2.2 = 0) with h | h; exact h; exact absurd h h0)
    split
    · rename_i h1; rw [if_pos h1] at h; exact absurd h (by decide)
    · rename_i h1
      rw [if_neg h1] at h
      split
      · rename_i h2; rw [if_pos h2] at h; exact absurd h (by decide)
      · rename_i h2
        rw [if_neg h2] at h
        split
        · rename_i h3; rw [if_pos h3] at h; exact absurd h h3
        · rename_i h3
          rw [if_neg h3] at h
          have h5 := unsealB_len (b := frameIn b at_) (by rcases Decidable.em ((unsealB (frameIn b at_)).2 = 0) with h | h; exact h; exact absurd h h3)
          have h6 : (frameIn b at_).length ≤ (getU b at_).1 + 4 := by unfold frameIn; simp; omega
          split
          · rename_i h4
            have := eventsB_len h4
            simp only
            omega
          · rename_i h4
            rw [if_neg h4] at h
            exact absurd h (by decide)
theorem frs_yes' {b : List UInt8} {at_ : Int} {r : List Ev} {x : Int} (h : readFr b at_ = (r, x, 0)) (acc : List Ev) : frs b at_ acc = frs b x (acc ++ r) := by
  have := frs_yes (b := b) (at_ := at_) (by rw [h]) acc
  rw [h] at this
  exact this
theorem SScan_ok {w : World} {v : Value} {l : List UInt8} (hv : Bs w v l) (hl : l.length ≤ 90000000) {n g e : Int} {r : List Ev} (hr : scanB l = (n, r, g, e)) :
    Calls Tryz.prog 173 #[v] w fun z w' => ∃ v', z = .returned (.tuple #[.int .i64 n, v', .int .i64 g, .int .i64 e]) ∧ OwnE w w' v' r := by
  obtain ⟨a, cap, rfl, h1, h2, -⟩ := hv.elems
  obtain ⟨⟨n0, x0, e0⟩, hu⟩ : ∃ y, headR l = y := ⟨_, rfl⟩
  have HU := Lib.hid (shead_ok hv hl hu)
  unfold scanB at hr
  rw [hu] at hr
  simp only at hr
  have HV := Lib.hid hv
  have hplace : e0 = 0 → 0 ≤ x0 ∧ x0 ≤ l.length := by
    intro h0
    unfold headR at hu
    split at hu
    · cases hu; cases h0
    · split at hu
      · cases hu; cases h0
      · split at hu
        · cases hu; cases h0
        · split at hu
          · rename_i hx; cases hu; exact absurd h0 hx
          · rename_i h4
            have hg := getU_fine (b := l) (at_ := 4) (by rcases Decidable.em ((getU l 4).2.2 = 0) with h | h; exact h; exact absurd h h4)
            split at hu
            · cases hu; cases h0
            · split at hu
              · rename_i hx; cases hu; exact absurd h0 hx
              · cases hu
                omega
  clear hv h1 h2 hu
  by_cases c0 : e0 = 0
  case neg =>
    have q1 : (e0 != 0) = true := by simpa using c0
    rw [if_pos c0] at hr
    obtain ⟨rfl, rfl, rfl, rfl⟩ : 0 = n ∧ [] = r ∧ 0 = g ∧ e0 = e := by simpa using hr
    clear hr hplace
    go_enter Tryz.func173, Tryz.ntmps173
    go_wp2_with fail
    refine HU.out.mono ?_
    rintro z w1 ⟨rfl, n1⟩
    have N1 := Lib.hid n1
    clear n1
    go_wp2
    refine bodyPost_ret (v := .tuple #[.int .i64 0, .slice none 0 0, .int .i64 0, .int .i64 e0]) (by simp [results, Tryz.results173, go_sem]) rfl ⟨_, rfl, Vec.nil, N1.out, fun g hg => by cases hg⟩
  subst c0
  rw [if_neg (by simp)] at hr
  obtain ⟨hp0, hp1⟩ := hplace rfl
  obtain ⟨E, hE⟩ : ∃ E, frs l x0 [] = E := ⟨_, rfl⟩
  rw [hE] at hr
  obtain ⟨E1, E2⟩ := E
  obtain ⟨rfl, rfl, rfl, rfl⟩ : n0 = n ∧ E1 = r ∧ E2 = g ∧ 0 = e := by simpa using hr
  obtain ⟨i0, hi, hz0, hz1, hz2⟩ := info_parts infoEv
  have HI := Lib.hid hi
  have HZ0 := Lib.hid hz0
  have HZ1 := Lib.hid hz1
  have HZ2 := Lib.hid hz2
  have HE := Lib.hid hE
  have HX0 := Lib.hid (And.intro hp0 hp1)
  clear hi hz0 hz1 hz2 hr hplace hE hp0 hp1
  go_enter Tryz.func173, Tryz.ntmps173
  go_wp2_with fail
  refine HU.out.mono ?_
  rintro z w1 ⟨rfl, n1⟩
  have N1 := Lib.hid n1
  clear n1
  go_wp2
  go_loopw [7, 9] (fun av s wr => ∃ (at_ : Int) (acc : List Ev) (m : Nat), av = .int .i64 at_ ∧ 0 ≤ at_ ∧ at_ ≤ l.length ∧ frs l at_ acc = (E1, E2) ∧ Vec 5 wr s m (acc.flatMap evV) ∧ acc.length = m ∧ (m : Int) ≤ at_ ∧ Nw w wr ∧ ∀ g, s.ownBlock = some g → w.heap.size ≤ g) (fun av _ _ => l.length - (intOf av).toNat)
  case atStart => exact ⟨x0, [], 0, rfl, HX0.out.1, HX0.out.2, HE.out, Vec.nil, rfl, by simpa using HX0.out.1, N1.out, fun g hg => by cases hg⟩
  case round =>
    obtain ⟨at_, acc, m, rfl, ha0, ha1, hE1, hs, hm, hma, hw, hfr⟩ := hrel
    obtain ⟨⟨r1, x1, e1⟩, hg⟩ : ∃ y, readFr l at_ = y := ⟨_, rfl⟩
    have C := Lib.hid (ERead_ok (HV.out.nw hw) hl at_ ⟨by omega, by omega⟩ hg)
    have HG := Lib.hid hg
    obtain ⟨sa, sc, rfl, -⟩ := hs.len
    have HS := Lib.hid (And.intro hs (And.intro hw hfr))
    have HE1 := Lib.hid hE1
    have HM := Lib.hid hm
    clear hg hs hw hfr hE1 hm
    go_wp2_with fail
    refine C.out.mono ?_
    rintro z w2 ⟨v2, rfl, o2, n2⟩
    have N2 := Lib.hid n2
    by_cases hy : e1 = 0
    case neg =>
      have q1 : (e1 != 0) = true := by simpa using hy
      have r := frs_no (b := l) (at_ := at_) (by rw [HG.out]; exact hy) acc
      rw [HE1.out] at r
      obtain ⟨rfl, rfl⟩ : E1 = acc ∧ E2 = at_ := by simpa using r
      clear r o2 n2 C
      go_wp2
      refine bodyPost_ret (v := .tuple #[.int .i64 n0, .slice sa m sc, .int .i64 E2, .int .i64 0]) (by simp [results, Tryz.results173, go_sem]) rfl ⟨_, rfl, ?_, HS.out.2.1.trans N2.out, HS.out.2.2⟩
      rw [HM.out]
      exact HS.out.1.nw N2.out
    subst hy
    have hfine := readFr_fine (b := l) (at_ := at_) (by rw [HG.out])
    have hlen := readFr_len (b := l) (at_ := at_) (by rw [HG.out])
    have hyes := frs_yes' HG.out acc
    rw [HG.out] at hfine hlen
    simp only at hfine hlen
    rw [HE1.out] at hyes
    have O2 := Lib.hid (o2 rfl)
    have HY := Lib.hid hyes
    obtain ⟨m2, hm2⟩ : ∃ k, r1.length = k := ⟨_, rfl⟩
    rw [hm2] at hlen
    have hb1 := hfine.2.1
    have hb2 := hfine.2.2.1
    have HM2 := Lib.hid hm2
    have hv2 := O2.out.1
    rw [hm2] at hv2
    obtain ⟨ta, tc, rfl, -⟩ := hv2.len
    have V4 := Lib.hid (HS.out.1.nw N2.out)
    have X4 := Lib.hid hv2.src
    clear hm2 hfine hyes o2 n2 C hv2
    go_wp2_with (at_builtin; refine wpList_append_vec rfl _ _ 37 rfl 104 i0 (.agg #[.int .i64 0, .int .u8 0, .int .i64 0, .int .i64 0, .int .i64 0]) 5 40 Tryz.underlying37 HI.out HZ0.out HZ1.out HZ2.out rfl (by decide) rfl rfl V4.out X4.out ?c1 ?c2 ?c3 ?_)
    case c1 => exact evV_one r1
    case c2 => unfold maxLen; omega
    case c3 => omega
    intro v5 w5 q5 q6 q7
    obtain ⟨ya, yc, rfl, -⟩ := q5.len
    have Q := Lib.hid (And.intro q5 (And.intro q6 q7))
    clear q5 q6 q7
    go_wp2
    go_roundw
    case rel =>
      refine ⟨x1, acc ++ r1, m + m2, rfl, by omega, hb2, HY.out.symm, by rw [List.flatMap_append]; exact Q.out.1, by rw [List.length_append, HM.out, HM2.out], by omega, ?_, fun g hg => ?_⟩
      · exact (HS.out.2.1.trans N2.out).trans' Q.out.2.1 (fun g hg hc => by have := HS.out.2.2 g hc; omega)
      · rcases Q.out.2.2 with h | h
        · exact HS.out.2.2 g (h ▸ hg)
        · have h1 := h g hg
          have h2 := (HS.out.2.1.trans N2.out).size
          omega
    case measure => simp [intOf]; omega
end Go.Proofs.YtkhcdbafcigeoaaGreatDoor
