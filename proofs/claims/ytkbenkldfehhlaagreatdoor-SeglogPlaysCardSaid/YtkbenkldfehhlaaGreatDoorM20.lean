/-
  Texts merged by a program of this claim's: Ref01R, Ref01E, DocE, Box.
-/
import Derived.Test.YtkbenkldfehhlaaGreatDoorM19
import Derived.Test.YtkbenkldfehhlaaGreatDoorM5
import Derived.Test.YtkbenkldfehhlaaGreatDoorM11
import Derived.Test.YtkbenkldfehhlaaGreatDoorM15
import Derived.Test.YtkbenkldfehhlaaGreatDoorM17
import Derived.Test.YtkbenkldfehhlaaGreatDoorM12
import Derived.Test.YtkbenkldfehhlaaGreatDoorM9
import Derived.Test.YtkbenkldfehhlaaGreatDoorM6
namespace Go.Proofs.YtkbenkldfehhlaaGreatDoor
open Go Go.RowKit Go.Sort
set_option maxRecDepth 100000
end Go.Proofs.YtkbenkldfehhlaaGreatDoor

namespace Go.Proofs.YtkbenkldfehhlaaGreatDoor
open Go Go.RowKit Go.Sort
set_option maxRecDepth 100000
set_option maxHeartbeats 1600000
def sealT (c : Nat) : Nat → List UInt8
  | 0 => [0, 0, 0, 0]
  | 1 => [0, 0, 0, UInt8.ofNat c]
  | 2 => [0, 0, UInt8.ofNat (c / 256), UInt8.ofNat c]
  | 3 => [0, UInt8.ofNat (c / 65536), UInt8.ofNat (c / 256), UInt8.ofNat c]
  | _ => [UInt8.ofNat (c / 16777216), UInt8.ofNat (c / 65536), UInt8.ofNat (c / 256), UInt8.ofNat c]
theorem sealT_len (c j : Nat) : (sealT c j).length = 4 := by
  match j with
  | 0 => rfl
  | 1 => rfl
  | 2 => rfl
  | 3 => rfl
  | _ + 4 => rfl
theorem sealT_set (c : Nat) {j : Nat} (hj : j < 4) (l : List UInt8) : (l ++ sealT c j).set (l.length + (3 - j)) (UInt8.ofNat (c / 256 ^ j)) = l ++ sealT c (j + 1) := by
  rw [List.set_append_right _ _ (by omega)]
  congr 1
  rw [show l.length + (3 - j) - l.length = 3 - j by omega]
  match j, hj with
  | 0, _ => simp [sealT]
  | 1, _ => simp [sealT]
  | 2, _ => simp [sealT]
  | 3, _ => simp [sealT]
theorem rSeal_ok {w : World} {v : Value} {l : List UInt8} (hv : Bs w v l) (hl : l.length ≤ 14000000) :
    Calls Tryz.prog 131 #[v] w (NewB w (sealB sumB l)) := by
  obtain ⟨a, c, rfl, -⟩ := hv.len
  have n1 := (Nw.refl w).alloc (.cells #[.int .u8 0, .int .u8 0, .int .u8 0, .int .u8 0] 5 (0, 0))
  have R1 : Bs (w.alloc (.cells #[.int .u8 0, .int .u8 0, .int .u8 0, .int .u8 0] 5 (0, 0))) (.slice (some ⟨w.heap.size, 0, none⟩) 4 4) [0, 0, 0, 0] := rd_lit (f := u8) w 5 (0, 0) [0, 0, 0, 0] _ 4 rfl (by decide) (by decide)
  have AF := after_ok (hv.nw n1) R1 (by simp; omega)
  obtain ⟨L0, hL0⟩ : ∃ x, l ++ [0, 0, 0, 0] = x := ⟨_, rfl⟩
  rw [hL0] at AF
  have AF := Lib.hid AF
  have N1 := Lib.hid n1
  have HV := Lib.hid hv
  obtain ⟨n, hn⟩ : ∃ n, l.length = n := ⟨_, rfl⟩
  have HN := Lib.hid hn
  rw [hn] at hl HV AF ⊢
  have hL0n : L0.length = n + 4 := by rw [← hL0, List.length_append, hn]; rfl
  have HL0 := Lib.hid hL0
  have HL0N := Lib.hid hL0n
  obtain ⟨cr, hcr⟩ : ∃ x, crcN l = x := ⟨_, rfl⟩
  have hcrl : cr < 4294967296 := by rw [← hcr]; exact crcN_lt l
  have HCR := Lib.hid hcr
  clear hv n1 R1 hn hL0 hL0n hcr
  go_enter Tryz.func131, Tryz.ntmps131
  go_wp2_with fail
  refine AF.out.mono ?_
  rintro e w2 ⟨v2, rfl, b2, n2, f2⟩
  rw [HL0N.out] at b2
  obtain ⟨g, o, c2, rfl⟩ := own_some b2 (by omega)
  have B2 := Lib.hid b2
  have N2 := Lib.hid (N1.out.trans n2)
  have hg2 := f2 g rfl
  have hgw : w.heap.size ≤ g := Nat.le_trans N1.out.size hg2
  have CR := rCrc_ok (HV.out.nw N2.out) (by rw [HN.out]; omega)
  rw [HCR.out] at CR
  have CR := Lib.hid CR
  clear b2 n2 f2 AF hg2
  go_wp2_with fail
  refine CR.out.mono ?_
  rintro e w3 ⟨rfl, rfl⟩
  have hw1 : IntKind.i64.wrap (((n + 4 : Nat) : Int) - 1) = (n : Int) + 3 := by rw [show ((n + 4 : Nat) : Int) - 1 = (n : Int) + 3 by omega]; exact IntWalk.i64_in _ (by omega)
  have B0 : Hid (Vec 1 w2 (.slice (some ⟨g, o, none⟩) (n + 4) c2) (n + 4) ((l ++ sealT cr 0).map u8)) := Lib.hid (by rw [show l ++ sealT cr 0 = L0 from HL0.out]; exact B2.out)
  clear B2 CR
  go_wp2
  go_loopw [4, 5] (fun sv i wr => ∃ (j : Nat) (iv : Int) (sn : Nat), j ≤ 4 ∧ iv = (n : Int) + 3 - j ∧ i = .int .i64 iv ∧ sv = .int .u32 sn ∧ sn = cr / 256 ^ j ∧ Vec 1 wr (.slice (some ⟨g, o, none⟩) (n + 4) c2) (n + 4) ((l ++ sealT cr j).map u8) ∧ Nw w wr) (fun _ i _ => (intOf i - n + 1).toNat)
  case atStart => exact ⟨0, (n : Int) + 4 - 1, cr, by omega, by omega, rfl, rfl, by simp, B0.out, N2.out⟩
  case round =>
    clear hw1
    obtain ⟨j, iv, sn, hj, hiv, rfl, rfl, hsn, hvec, hnw⟩ := hrel
    have HV2 := Lib.hid hvec
    have HW := Lib.hid hnw
    have HIV := Lib.hid hiv
    have HSN := Lib.hid hsn
    clear hvec hnw
    by_cases h4 : j < 4
    case neg =>
      obtain rfl : j = 4 := by omega
      have hlt : ¬ (n : Int) ≤ iv := by omega
      clear hiv hsn
      go_wp2
      go_ret
      have hfin : sealB sumB l = l ++ sealT cr 4 := by rw [← HCR.out]; rfl
      refine ⟨.slice (some ⟨g, o, none⟩) (n + 4) c2, rfl, ?_, HW.out, fun x hx => by cases hx; exact hgw⟩
      rw [hfin, List.length_append, sealT_len, HN.out]
      exact HV2.out
    have hge : (n : Int) ≤ iv := by omega
    obtain ⟨k, hk⟩ : ∃ k : Nat, n + (3 - j) = k := ⟨_, rfl⟩
    obtain rfl : iv = (k : Int) := by omega
    have hkl : k < n + 4 := by omega
    obtain ⟨u, hc, -, hf⟩ := own1 HV2.out k (by omega)
    have hsl : sn < 4294967296 := by rw [hsn]; exact Nat.lt_of_le_of_lt (Nat.div_le_self _ _) hcrl
    have hq : (sn : Int) % 256 = ((sn % 256 : Nat) : Int) := by omega
    have hqq : ((sn % 256 : Nat) : Int) % 256 = ((sn % 256 : Nat) : Int) := by omega
    have hd : (sn : Int) / 256 = ((sn / 256 : Nat) : Int) := by omega
    have hwi : IntKind.i64.wrap ((k : Int) - 1) = (k : Int) - 1 := IntWalk.i64_in _ (by omega)
    have eu : (UInt8.ofNat sn).toNat = sn % 256 := by simp
    have HS1 : Hid (sn / 256 = cr / 256 ^ (j + 1)) := Lib.hid (by rw [hsn, Nat.div_div_eq_div_mul, Nat.pow_succ])
    have hset := sealT_set cr h4 l
    rw [HN.out, hk, ← hsn] at hset
    have HSET := Lib.hid hset
    obtain ⟨q, hqe⟩ : ∃ q, sn % 256 = q := ⟨_, rfl⟩
    obtain ⟨s2, hs2⟩ : ∃ q, sn / 256 = q := ⟨_, rfl⟩
    rw [hqe] at hq hqq eu
    rw [hs2] at hd HS1
    have V3 := HV2.out.set k (by rw [List.length_map, List.length_append, sealT_len, HN.out]; exact hkl) (.int .u8 q)
    have e3 : ((l ++ sealT cr j).map u8).set k (.int .u8 q) = (l ++ sealT cr (j + 1)).map u8 := by
      rw [← HSET.out, List.map_set]
      unfold u8
      rw [eu]
    rw [e3] at V3
    have n3 : Nw w (wr.setCell ⟨g, o + k, none⟩ (.int .u8 q)) := Only.setCell (S := fun _ => False) HW.out (fun h => absurd h (by simp only; omega)) _
    have V3 := Lib.hid V3
    have N3 := Lib.hid n3
    clear hiv hsn e3 n3 hset hqe hs2 eu
    go_wp2
    go_roundw
    case rel => exact ⟨j + 1, (k : Int) - 1, s2, by omega, by have := HIV.out; omega, by go_num, by go_num, HS1.out, V3.out, N3.out⟩
    case measure => have := HIV.out; simp [intOf]; omega
end Go.Proofs.YtkbenkldfehhlaaGreatDoor

namespace Go.Proofs.YtkbenkldfehhlaaGreatDoor
open Go Go.RowKit Go.Sort
set_option maxRecDepth 100000
set_option maxHeartbeats 1600000
theorem dInt_ok {w : World} {v : Value} {l : List UInt8} (hv : Bs w v l) (n : Int) (h0 : -9223372036854775808 ≤ n) (h1 : n ≤ 9223372036854775807) (hl : l.length ≤ 15000000) :
    Calls Tryz.prog 162 #[v, .int .i64 n] w (NewB w (l ++ intB n)) := by
  obtain ⟨a, c, rfl, -⟩ := hv.len
  have UI : Calls Tryz.prog 154 #[.slice a l.length c, .int .u64 (zig n)] w (NewB w (l ++ intB n)) := rUint_ok hv (zig n) (Nat.lt_of_lt_of_eq (zig_lt h0 h1) (by decide)) hl
  obtain ⟨L, hL⟩ : ∃ x, l ++ intB n = x := ⟨_, rfl⟩
  rw [hL] at UI ⊢
  clear hL hv
  by_cases hn : n < 0
  · have hz : (zig n : Int) = 2 * (-1 - n) + 1 := by unfold zig; split <;> omega
    rw [hz] at UI
    have UI := Lib.hid UI
    have e1 : IntKind.i64.wrap (-1 - n) = -1 - n := by rw [IntKind.wrap_i64]; omega
    have e2 : IntKind.u64.wrap (-1 - n) = -1 - n := by rw [IntKind.wrap_u64]; omega
    have e3 : IntKind.u64.wrap (2 * (-1 - n)) = 2 * (-1 - n) := by rw [IntKind.wrap_u64]; omega
    have e4 : IntKind.u64.wrap (2 * (-1 - n) + 1) = 2 * (-1 - n) + 1 := by rw [IntKind.wrap_u64]; omega
    have q : decide (n < 0) = true := by simp; exact hn
    clear hz hn
    go_enter Tryz.func162, Tryz.ntmps162
    go_wp2_with fail
    refine UI.out.mono ?_
    rintro e w1 ⟨v', rfl, b2, n2, f2⟩
    obtain ⟨a2, c2, rfl, -⟩ := b2.len
    have B2 := Lib.hid b2
    have N2 := Lib.hid n2
    have F2 := Lib.hid f2
    clear b2 n2 f2
    go_wp2
    go_ret
    exact ⟨_, rfl, B2.out, N2.out, F2.out⟩
  · have hz : (zig n : Int) = 2 * n := by unfold zig; split <;> omega
    rw [hz] at UI
    have UI := Lib.hid UI
    have e2 : IntKind.u64.wrap n = n := by rw [IntKind.wrap_u64]; omega
    have e3 : IntKind.u64.wrap (2 * n) = 2 * n := by rw [IntKind.wrap_u64]; omega
    have q : decide (n < 0) = false := by simp; omega
    clear hz hn
    go_enter Tryz.func162, Tryz.ntmps162
    go_wp2_with fail
    refine UI.out.mono ?_
    rintro e w1 ⟨v', rfl, b2, n2, f2⟩
    obtain ⟨a2, c2, rfl, -⟩ := b2.len
    have B2 := Lib.hid b2
    have N2 := Lib.hid n2
    have F2 := Lib.hid f2
    clear b2 n2 f2
    go_wp2
    go_ret
    exact ⟨_, rfl, B2.out, N2.out, F2.out⟩
theorem four_ok (e : Ev) (w : World) : Calls Tryz.prog 161 #[.agg #[.int .i64 e.thread, .int .u8 e.op.toNat, .int .i64 e.obj, .int .i64 e.a, .int .i64 e.b]] w fun x w' =>
    x = .returned (.agg #[.int .i64 e.thread, .int .i64 e.obj, .int .i64 e.a, .int .i64 e.b]) ∧ Nw w w' := by
  go_enter Tryz.func161, Tryz.ntmps161
  go_wp2
  refine bodyPost_ret (v := .agg #[.int .i64 e.thread, .int .i64 e.obj, .int .i64 e.a, .int .i64 e.b]) (by simp [results, Tryz.results161, go_sem]) rfl ⟨rfl, ?_⟩
  exact ((Nw.refl w).alloc _).alloc _
end Go.Proofs.YtkbenkldfehhlaaGreatDoor

namespace Go.Proofs.YtkbenkldfehhlaaGreatDoor
open Go Go.RowKit Go.Sort
set_option maxRecDepth 100000
def BxN (w5 w : World) (x : Value) (T : TypeId) (S : Prop) (cs : List Value) : Prop := ∃ pd us, x = .pointer (some ⟨pd, 0, none⟩) ∧ w5.heap.size ≤ pd ∧ w.heap[pd]? = some (.cells us.toArray T (0, 0)) ∧ us.length = cs.length ∧ (S → us = cs)
section
variable {w5 w w' : World} {x : Value} {cs : List Value} {T : TypeId} {S S' : Prop}
theorem BxN.nw (h : BxN w5 w x T S cs) (hw : Nw w w') : BxN w5 w' x T S cs := by
  obtain ⟨pd, us, h1, h2, h3, h4, h5⟩ := h
  exact ⟨pd, us, h1, h2, hw.at_ h3, h4, h5⟩
theorem BxN.imp (h : BxN w5 w x T S cs) (hs : S' → S) : BxN w5 w x T S' cs := by
  obtain ⟨pd, us, h1, h2, h3, h4, h5⟩ := h
  exact ⟨pd, us, h1, h2, h3, h4, fun h => h5 (hs h)⟩
theorem BxN.new (zs : List Value) (hw : Nw w5 w) (hl : zs.length = cs.length) (hs : S → False) : BxN w5 (w.alloc (.cells zs.toArray T (0, 0))) (.pointer (some ⟨w.heap.size, 0, none⟩)) T S cs := ⟨_, zs, rfl, hw.size, heap_alloc_new w _, hl, fun h => (hs h).elim⟩
theorem BxN.apart (h : BxN w5 w x T S cs) : (.pointer (some ⟨w.heap.size, 0, none⟩) : Value) ≠ x := by
  obtain ⟨pd, us, rfl, h2, h3, h4⟩ := h
  have := lt_of_block h3
  intro hc
  injection hc with hc
  injection hc with hc
  injection hc with hc
  omega
theorem heap_setCells_at {pd : Nat} : ∀ (vs pre us : List Value) (w : World), us.length = vs.length → w.heap[pd]? = some (.cells (pre ++ us).toArray T (0, 0)) → (w.setCells pd pre.length vs).heap[pd]? = some (.cells (pre ++ vs).toArray T (0, 0))
  | [], pre, us, w, hl, h => by
    obtain rfl := List.eq_nil_of_length_eq_zero hl
    exact h
  | v :: vs, pre, [], w, hl, h => by simp at hl
  | v :: vs, pre, u :: us, w, hl, h => by
    rw [World.setCells]
    have h1 := heap_setCell_at h pre.length v
    have e : ((pre ++ u :: us).toArray.setIfInBounds pre.length v) = ((pre ++ [v]) ++ us).toArray := by
      simp
    have h2 : (w.setCell ⟨pd, pre.length, none⟩ v).heap[pd]? = some (.cells ((pre ++ [v]) ++ us).toArray T (0, 0)) := by rw [← e]; exact h1
    have := heap_setCells_at vs (pre ++ [v]) us (w.setCell ⟨pd, pre.length, none⟩ v) (by simpa using hl) h2
    simpa using this
theorem BxN.put {pd : Nat} {us : List Value} (hl : us.length = cs.length) (hp : w5.heap.size ≤ pd) (h : w.heap[pd]? = some (.cells us.toArray T (0, 0))) : BxN w5 (w.setCells pd 0 cs) (.pointer (some ⟨pd, 0, none⟩)) T S cs :=
  ⟨pd, cs, rfl, hp, heap_setCells_at cs [] us w hl h, rfl, fun _ => rfl⟩
theorem BxN.oth (h : BxN w5 w x T S cs) {pd : Nat} (hw : Only (fun k => k = pd) w w') (hne : x ≠ .pointer (some ⟨pd, 0, none⟩)) : BxN w5 w' x T S cs := by
  obtain ⟨g, us, rfl, h2, h3, h4⟩ := h
  refine ⟨g, us, rfl, h2, hw.at_ h3 (fun hc => hne (by rw [hc])), h4⟩
theorem only_setCells (w : World) (pd : Nat) (vs : List Value) : Only (fun k => k = pd) w (w.setCells pd 0 vs) := Only.setCells vs 0 w (fun _ => rfl)
theorem nw_setCells (hN : Nw w5 w) {pd : Nat} (hp : w5.heap.size ≤ pd) (vs : List Value) : Nw w5 (w.setCells pd 0 vs) := hN.trans' (only_setCells w pd vs) fun k hk e => by omega
end
end Go.Proofs.YtkbenkldfehhlaaGreatDoor
