/-
  Texts merged by a program of this claim's: BytesA, BytesB, BytesC, BytesD, EventA.
-/
import Derived.Test.YtkbenkldfehhlaaGreatDoorM6
import Derived.Test.YtkbenkldfehhlaaGreatDoorM1
import Derived.Test.YtkbenkldfehhlaaGreatDoorM8
import Derived.Lib.AppendZeros
import Derived.Lib.Zigzag
import Derived.Lib.EndianBits
import Derived.Laws.Bits64b
import Derived.Shelf.Spec.TrailingZeros
namespace Go.Proofs.YtkbenkldfehhlaaGreatDoor
open Go Go.RowKit Go.Sort
set_option maxRecDepth 100000
set_option maxHeartbeats 1600000

theorem u8_cell (c : UInt8) : (u8 c).oneCell' = true := rfl
theorem infoU8 : (Tryz.prog.info? 5).map (fun i => (i.zero, i.size, i.bytes)) = some (some (.int .u8 0), 1, 1) := by kernel_rfl
def NewB (w : World) (l : List UInt8) (e : Ending) (w' : World) : Prop := ∃ v', e = .returned v' ∧ Vec 1 w' v' l.length (l.map u8) ∧ Nw w w' ∧ ∀ g, v'.ownBlock = some g → w.heap.size ≤ g

theorem Grow_ok (w : World) (n : Nat) (hn : n ≤ 140737488355328) :
    Calls Tryz.prog 193 #[.slice none 0 0, .int .i64 n] w (NewB w []) := by
  obtain ⟨i0, hi, hz0, hz1, hz2⟩ := info_parts infoU8
  by_cases h0 : n = 0
  · subst h0
    go_enter Tryz.func193, Tryz.ntmps193
    go_wp2
    go_ret
    exact ⟨_, rfl, Vec.nil, Nw.refl _, fun g hg => by cases hg⟩
  · have hp : 0 < n := by omega
    have hr := Lib.run_append_nil_zeros (P := Tryz.prog) w 79 3 79 5 i0 (.int .u8 0) .i64 .i64 Tryz.underlying79 Tryz.underlying3 hi hz0 n hp (by omega) (by omega) (by rw [hz2]; omega)
    have HR := Lib.hid hr
    clear hr
    have hcap := grownCap_le_maxLen w n 0 5 (by unfold maxLen; omega)
    have hcge := grownCap_ge w n 0 5
    generalize grownCap w n 0 5 = cap at HR hcap hcge
    have HCP := Lib.hid (And.intro hcap hcge)
    clear hcap hcge
    generalize hW : w.drew.alloc (.cells (Builtin.zeroCells (Value.int .u8 0).cells n ++ Builtin.zeroCells (Value.int .u8 0).cells (cap - n)) 5) = w1 at HR
    have HW := Lib.hid hW
    clear hW
    go_enter Tryz.func193, Tryz.ntmps193
    go_wp2_with (at_builtin; refine Lib.wpList_append_run _ rfl _ _ 79 3 rfl _ _ rfl rfl _ _ HR.out ?_)
    go_wp2
    go_ret
    obtain ⟨h1, h2⟩ := HCP.out
    have hN : Nw w w1 := by rw [← HW.out]; exact (Nw.refl w).drew.alloc _
    have hb : w1.heap[w.heap.size]? = some (.cells (Builtin.zeroCells (Value.int .u8 0).cells n ++ Builtin.zeroCells (Value.int .u8 0).cells (cap - n)) 5 (0, 0)) := by
      rw [← HW.out]; exact heap_alloc_new w.drew _
    refine ⟨_, rfl, ⟨rfl, .inr ⟨w.heap.size, 0, cap, rfl, Nat.zero_le _, h1, lt_of_block hb, fun j hj => ?_, fun j hj => ?_, fun j h => absurd h (by simp)⟩⟩, hN, fun g hg => by cases hg; exact Nat.le_refl _⟩
    · have hsz : j < (Builtin.zeroCells (Value.int .u8 0).cells n ++ Builtin.zeroCells (Value.int .u8 0).cells (cap - n)).size := by
        simp only [Array.size_append, size_zeroCells]
        simp only [show (Value.int .u8 0).cells.size = 1 from rfl]
        omega
      rw [Nat.zero_add]
      simp only [World.cell?, hb]
      rw [Array.getElem?_eq_getElem hsz]; rfl
    · simp [World.frozen?, hb]

theorem and127 (m : Nat) (h : m < 18446744073709551616) : bits .and .u64 (m : Int) 127 = ((m % 128 : Nat) : Int) := by
  have := bits_mask .u64 64 (by decide) Go.wraps_u64 7 (by decide) (m : Int) (by omega) (by omega)
  rw [show ((2 : Int) ^ 7 - 1) = 127 by decide] at this
  rw [this]; omega
theorem or128 : ∀ q : Nat, q < 128 → bits .or .u8 (q : Int) 128 = ((q + 128 : Nat) : Int) := by
  have h : ∀ q : Fin 128, bits .or .u8 ((q.val : Nat) : Int) 128 = ((q.val + 128 : Nat) : Int) := by decide +kernel
  exact fun q hq => h ⟨q, hq⟩
theorem sliceTen (g : Nat) (k : Nat) (hk : k ≤ 9) (W : World) : (Instr.sliceAt 182 (.pointer (some ⟨g, 0, none⟩)) none (some (.int .i64 ((k : Int) + 1))) none).run Tryz.prog W = .ok (.slice (some ⟨g, 0, none⟩) (k + 1) 10) W := by
  have hal : Tryz.prog.arrayLen 182 = 10 := by kernel_rfl
  rw [run_sliceAt_array_h W 182 ⟨g, 0, none⟩ (by kernel_rfl) .i64 ((k : Int) + 1) (by omega) (by rw [hal]; omega)]
  go_simp

theorem Uint_ok {w : World} {v : Value} {l : List UInt8} (hv : Vec 1 w v l.length (l.map u8)) (n : Nat) (hn : n < 18446744073709551616) (hl : l.length ≤ 100000000) :
    Calls Tryz.prog 126 #[v, .int .u64 n] w fun e w' => ∃ v', e = .returned v' ∧ Vec 1 w' v' (l ++ uintB n).length ((l ++ uintB n).map u8) ∧ Only (fun k => v.ownBlock = some k) w w' ∧ (v'.ownBlock = v.ownBlock ∨ ∀ g, v'.ownBlock = some g → w.heap.size ≤ g) := by
  have HV := Lib.hid hv
  obtain ⟨sa, sc, rfl, hsl⟩ := hv.len
  clear hv hsl
  obtain ⟨i0, hi, hz0, hz1, hz2⟩ := info_parts infoU8
  have HI := Lib.hid hi
  have HZ0 := Lib.hid hz0
  have HZ1 := Lib.hid hz1
  have HZ2 := Lib.hid hz2
  clear hi hz0 hz1 hz2
  go_enter Tryz.func126, Tryz.ntmps126
  go_wp2
  go_loopw [1, 6] (fun n' k wr => ∃ (pre : List UInt8) (m : Nat) (cs : Array Value), n' = .int .u64 m ∧ k = .int .i64 pre.length ∧ pre ++ uintB m = uintB n ∧ m * 128 ^ pre.length < 2 ^ 64 ∧ pre.length ≤ 9 ∧ cs.size = 10 ∧
    (∀ j (h : j < pre.length), cs[j]? = some (Go.Proofs.YtkbenkldfehhlaaGreatDoor.u8 pre[j])) ∧ wr.heap[w.heap.size]? = some (.cells cs 182 (0, 0)) ∧ Nw w wr) (fun n' _ _ => (intOf n').toNat)
  case atStart => exact ⟨[], n, _, rfl, rfl, rfl, by simpa using hn, by simp, rfl, fun j h => absurd h (by simp), heap_alloc_new _ _, (Nw.refl w).alloc _⟩
  case round =>
    obtain ⟨pre, m, cs, rfl, rfl, hpre, hm, hk, hcs, hj, hb, hw⟩ := hrel
    have hmlt : m < 18446744073709551616 := by
      have : m * 1 ≤ m * 128 ^ pre.length := Nat.mul_le_mul_left _ (Nat.one_le_pow _ _ (by decide))
      omega
    have hand := and127 m hmlt
    have HP := Lib.hid hpre
    have HM := Lib.hid hm
    have HJ := Lib.hid hj
    have HW := Lib.hid hw
    have HC := Lib.hid hcs
    clear hpre hm hj hw
    generalize hpl : pre.length = pl at hk
    have HPL := Lib.hid hpl
    obtain ⟨u, hc⟩ : ∃ u, wr.cell? ⟨w.heap.size, pl, none⟩ = some u := by
      have hlt' : pl < cs.size := by omega
      simp [World.cell?, hb, hlt']
    have hf : wr.frozen? ⟨w.heap.size, pl, none⟩ = false := by simp [World.frozen?, hb]
    have HB := Lib.hid hb
    clear hb hcs hpl
    have hlt : m % 128 < 128 := by omega
    have hq : ((m % 128 : Nat) : Int) % 256 = ((m % 128 : Nat) : Int) := by omega
    by_cases hs : m < 128
    · have hdiv : (m : Int) / 128 = 0 := by omega
      have hmod : m % 128 = m := Nat.mod_eq_of_lt hs
      rw [hmod] at hand hq
      have hsl := sliceTen w.heap.size pl hk
      have HS : Hid (SrcV 1 (wr.setCell ⟨w.heap.size, pl, none⟩ (.int .u8 m)) (.slice (some ⟨w.heap.size, 0, none⟩) (pl + 1) 10) (pl + 1) ((pre ++ [UInt8.ofNat m]).map Go.Proofs.YtkbenkldfehhlaaGreatDoor.u8)) := by
        show SrcV _ _ _ _ _
        obtain rfl := HPL.out
        refine ⟨by simp, .inr ⟨w.heap.size, 0, 10, rfl, by omega, by decide, by simpa using lt_of_block HB.out, fun j hj' => ?_⟩⟩
        simp only [List.length_map, List.length_append, List.length_singleton] at hj'
        rw [Nat.zero_add]
        by_cases hjl : j < pre.length
        · have : (⟨w.heap.size, pre.length, none⟩ : Addr) ≠ ⟨w.heap.size, j, none⟩ := fun e => by injection e; omega
          rw [World.cell?_setCell_other (h := this)]
          simp only [World.cell?, HB.out, HJ.out j hjl, List.getElem_map, List.getElem_append_left hjl]
          rfl
        · obtain rfl : j = pre.length := by omega
          rw [World.cell?_setCell_same (h := hc)]
          simp [Go.Proofs.YtkbenkldfehhlaaGreatDoor.u8]
          omega
      have HV1 : Hid (Vec 1 (wr.setCell ⟨w.heap.size, pl, none⟩ (.int .u8 m)) (.slice sa l.length sc) l.length (l.map Go.Proofs.YtkbenkldfehhlaaGreatDoor.u8)) :=
        Lib.hid (HV.out.nw (Only.setCell (S := fun _ => False) HW.out (fun h => absurd h (by simp)) _))
      go_wp2_with (at_builtin; refine wpList_append_vec rfl _ _ 79 rfl 5 i0 (.int .u8 0) 1 1 Tryz.underlying79 HI.out HZ0.out HZ1.out HZ2.out rfl (by decide) rfl rfl HV1.out HS.out ?c1 ?c2 ?c3 ?_)
      case c1 => exact fun u hu => by obtain ⟨y, _, rfl⟩ := List.mem_map.1 hu; exact u8_cell y
      case c2 => unfold maxLen; omega
      case c3 => omega
      intro v' w2 h1 h2 h3
      have H1 := Lib.hid h1
      have H2 := Lib.hid h2
      have H3 := Lib.hid h3
      clear h1 h2 h3
      go_wp2
      go_ret
      have e : l ++ uintB n = l ++ (pre ++ [UInt8.ofNat m]) := by rw [← HP.out, uintB_small hs]
      have hw1 : Nw w (wr.setCell ⟨w.heap.size, pl, none⟩ (.int .u8 m)) := Only.setCell (S := fun _ => False) HW.out (fun h => absurd h (by simp)) _
      refine ⟨v', rfl, ?_, hw1.only.trans' H2.out (fun k _ hk => hk), H3.out.imp id (fun h g hg => by have := h g hg; have := hw1.size; simp only [World.size_setCell] at *; omega)⟩
      have := H1.out
      rw [e, List.map_append, List.map_append (l₂ := [UInt8.ofNat m]), List.map_singleton, show (l ++ (pre ++ [UInt8.ofNat m])).length = l.length + (pl + 1) by simp [← HPL.out]]
      exact this
    · have hne : ((m : Int) / 128 == 0) = false := by simp; omega
      have hor := or128 (m % 128) hlt
      have c1 : (wr.setCell ⟨w.heap.size, pl, none⟩ (.int .u8 ((m % 128 : Nat) : Int))).cell? ⟨w.heap.size, pl, none⟩ = some (.int .u8 ((m % 128 : Nat) : Int)) := World.cell?_setCell_same _ _ _ hc
      have f1 : (wr.setCell ⟨w.heap.size, pl, none⟩ (.int .u8 ((m % 128 : Nat) : Int))).frozen? ⟨w.heap.size, pl, none⟩ = false := by rw [World.frozen?_setCell]; exact hf
      generalize hq0 : m % 128 = q at *
      have HQ0 := Lib.hid hq0
      clear hq0 hlt
      go_wp2
      have hmq : m % 128 = q := HQ0.out
      have hw1 : Nw w ((wr.setCell ⟨w.heap.size, pl, none⟩ (.int .u8 (q : Int))).setCell ⟨w.heap.size, pl, none⟩ (.int .u8 ((q + 128 : Nat) : Int))) :=
        Only.setCell (S := fun _ => False) (Only.setCell (S := fun _ => False) HW.out (fun h => absurd h (by simp)) _) (fun h => absurd h (by simp)) _
      obtain rfl := HPL.out
      have h64 : m * 128 ^ pre.length < 2 ^ 64 := HM.out
      have hle : pre.length + 1 ≤ 9 := by
        refine Nat.lt_of_not_le fun h9 => ?_
        have e9 : pre.length = 9 := by omega
        rw [e9] at h64
        have : 128 * 128 ^ 9 ≤ m * 128 ^ 9 := Nat.mul_le_mul_right _ (by omega)
        have e2 : (2 : Nat) ^ 64 < 128 * 128 ^ 9 := by decide
        omega
      have hb2 := heap_setCell_at (heap_setCell_at HB.out pre.length (.int .u8 (q : Int))) pre.length (.int .u8 ((q + 128 : Nat) : Int))
      have hq7 : (UInt8.ofNat (q + 128)).toNat = q + 128 := by simp; omega
      have hcs : cs.size = 10 := HC.out
      go_roundw
      case rel =>
        refine ⟨pre ++ [UInt8.ofNat (q + 128)], m / 128, _, ?_, ?_, ?_, ?_, ?_, ?_, ?_, hb2, hw1⟩
        · simp
        · simp
        · rw [List.append_assoc, List.singleton_append, ← HP.out, uintB_big hs, hmq]
        · rw [List.length_append, List.length_singleton, Nat.pow_succ]
          refine Nat.lt_of_le_of_lt ?_ h64
          rw [Nat.mul_comm (128 ^ pre.length) 128, ← Nat.mul_assoc]
          exact Nat.mul_le_mul_right _ (by omega)
        · simpa using hle
        · simp [hcs]
        · intro j hj
          simp only [List.length_append, List.length_singleton] at hj
          by_cases hjl : j < pre.length
          · rw [Array.getElem?_setIfInBounds_ne (by omega), Array.getElem?_setIfInBounds_ne (by omega), HJ.out j hjl, List.getElem_append_left hjl]
          · obtain rfl : j = pre.length := by omega
            rw [Array.getElem?_setIfInBounds_self_of_lt (by simp; omega)]
            simp only [List.getElem_append_right (Nat.le_refl _), Nat.sub_self, List.getElem_singleton, Go.Proofs.YtkbenkldfehhlaaGreatDoor.u8, hq7]
      case measure =>
        simp only [intOf]
        have e1 : ((m : Int) / 128).toNat = m / 128 := by omega
        simp [e1]
        omega
end Go.Proofs.YtkbenkldfehhlaaGreatDoor

namespace Go.Proofs.YtkbenkldfehhlaaGreatDoor
open Go Go.RowKit Go.Sort
set_option maxRecDepth 100000
set_option maxHeartbeats 1600000

theorem xor_u32 (a b : Nat) (ha : a < 4294967296) (hb : b < 4294967296) : bits .xor .u32 (a : Int) (b : Int) = ((a ^^^ b : Nat) : Int) := by
  show IntKind.u32.wrap ((BitVec.ofInt 32 (a : Int) ^^^ BitVec.ofInt 32 (b : Int)).toNat : Int) = _
  have h1 : (BitVec.ofInt 32 (a : Int)).toNat = a := by rw [BitVec.ofInt_natCast, BitVec.toNat_ofNat]; exact Nat.mod_eq_of_lt (by omega)
  have h2 : (BitVec.ofInt 32 (b : Int)).toNat = b := by rw [BitVec.ofInt_natCast, BitVec.toNat_ofNat]; exact Nat.mod_eq_of_lt (by omega)
  have h3 : a ^^^ b < 4294967296 := Nat.xor_lt_two_pow (n := 32) ha hb
  rw [BitVec.toNat_xor, h1, h2]
  exact wraps_u32 _ (by omega) (by omega)
theorem and1_u32 (a : Nat) (ha : a < 4294967296) : bits .and .u32 (a : Int) 1 = ((a % 2 : Nat) : Int) := by
  have := bits_mask .u32 32 (by decide) wraps_u32 1 (by decide) (a : Int) (by omega) (by omega)
  rw [show ((2 : Int) ^ 1 - 1) = 1 by decide] at this
  rw [this]; omega

theorem folded_ok (n : Int) (h0 : -9223372036854775808 ≤ n) (h1 : n ≤ 9223372036854775807) (w : World) :
    Calls Tryz.prog 191 #[.int .i64 n] w fun e w' => e = .returned (.int .u64 (zig n)) ∧ w = w' := by
  by_cases hn : 0 ≤ n
  · have e3 := bits_xor_u64_nat 0 (2 * n.toNat) (by omega) (by omega)
    rw [Nat.zero_xor, show ((2 * n.toNat : Nat) : Int) = n * 2 by omega] at e3
    have e4 : ((zig n : Nat) : Int) = n * 2 := by unfold zig; rw [if_pos hn]; omega
    have E := Lib.hid (e3.trans e4.symm)
    clear e3 e4
    have e1 : n / 9223372036854775808 = 0 := by omega
    go_enter Tryz.func191, Tryz.ntmps191
    go_wp2
    go_ret
    refine ⟨ret1 ?_, rfl⟩
    have := E.out
    simpa [e1] using this
  · have e2 : IntKind.u64.wrap (IntKind.u64.wrap n * 2) = (((2 * n + 18446744073709551616).toNat : Nat) : Int) := by rw [IntKind.wrap_u64, IntKind.wrap_u64]; omega
    have e0 : IntKind.u64.wrap (-1) = ((2 ^ 64 - 1 : Nat) : Int) := by decide
    have e3 := bits_xor_u64_nat (2 ^ 64 - 1) (2 * n + 18446744073709551616).toNat (by decide) (by omega)
    rw [Lib.xor_ones64 _ (by omega), ← e2, ← e0] at e3
    have e4 : zig n = 2 ^ 64 - 1 - (2 * n + 18446744073709551616).toNat := by unfold zig; rw [if_neg hn]; omega
    rw [← e4] at e3
    have E := Lib.hid e3
    clear e3 e4 e2 e0
    have e1 : n / 9223372036854775808 = -1 := by omega
    go_enter Tryz.func191, Tryz.ntmps191
    go_wp2
    go_ret
    refine ⟨ret1 ?_, rfl⟩
    have := E.out
    simpa [e1] using this

def halfK (r k : Nat) : Nat := (List.range k).foldl (fun o k => bitStep k r o) (r / 16)
theorem halfK_succ (r k : Nat) : halfK r (k + 1) = bitStep k r (halfK r k) := by simp [halfK, List.range_succ]
theorem halfK_lt {r : Nat} (h : r < 4294967296) : ∀ k, halfK r k < 4294967296
  | 0 => by simp only [halfK, List.range_zero, List.foldl_nil]; omega
  | k + 1 => by rw [halfK_succ]; exact bitStep_lt (halfK_lt h k)
theorem halfK_four (r : Nat) : halfK r 4 = halfN r := by
  simp only [halfK_succ, halfN]; rfl

theorem half_ok (r : Nat) (h : r < 4294967296) (w : World) :
    Calls Tryz.prog 192 #[.int .u32 r] w fun e w' => e = .returned (.int .u32 (halfN r)) ∧ w = w' := by
  go_enter Tryz.func192, Tryz.ntmps192
  go_wp2
  go_loopw [3, 7] (fun o k wr => ∃ i : Nat, i ≤ 4 ∧ k = .int .i64 i ∧ o = .int .u32 (halfK r i) ∧ w = wr) (fun _ k _ => 4 - (intOf k).toNat)
  case atStart => exact ⟨0, by omega, rfl, by simp [halfK], rfl⟩
  case round =>
    obtain ⟨i, hi, rfl, rfl, rfl⟩ := hrel
    have hlt := halfK_lt h i
    have hc : i = 0 ∨ i = 1 ∨ i = 2 ∨ i = 3 ∨ i = 4 := by omega
    rcases hc with rfl | rfl | rfl | rfl | rfl
    · have hs := halfK_succ r 0
      generalize halfK r 0 = o at hlt hs ⊢
      have ha0 := and1_u32 (r) (by omega)
      have hx := xor_u32 o 498536548 hlt (by decide)
      rcases Nat.mod_two_eq_zero_or_one (r) with hb | hb
      · have hs' : halfK r 1 = o := by rw [hs]; unfold bitStep; rw [if_neg (by simp; omega)]
        have ha : bits .and .u32 (r : Int) 1 = 0 := by rw [hb] at ha0; simpa using ha0
        clear ha0
        clear hs hb hx
        go_wp2
        go_roundw
        case rel => exact ⟨1, by omega, rfl, by rw [hs'], by trivial⟩
        case measure => simp [intOf]
      · have hs' : halfK r 1 = o ^^^ 498536548 := by rw [hs]; unfold bitStep; rw [if_pos (by simp; omega)]
        have ha : bits .and .u32 (r : Int) 1 = 1 := by rw [hb] at ha0; simpa using ha0
        clear ha0
        clear hs hb
        go_wp2
        go_roundw
        case rel => exact ⟨1, by omega, rfl, by rw [hs', ← hx]; rfl, by trivial⟩
        case measure => simp [intOf]
    · have hs := halfK_succ r 1
      generalize halfK r 1 = o at hlt hs ⊢
      have ha0 := and1_u32 (r / 2) (by omega)
      have hx := xor_u32 o 997073096 hlt (by decide)
      rcases Nat.mod_two_eq_zero_or_one (r / 2) with hb | hb
      · have hs' : halfK r 2 = o := by rw [hs]; unfold bitStep; rw [if_neg (by simp; omega)]
        have ha : bits .and .u32 ((r : Int) / 2) 1 = 0 := by rw [hb] at ha0; simpa using ha0
        clear ha0
        clear hs hb hx
        go_wp2
        go_roundw
        case rel => exact ⟨2, by omega, rfl, by rw [hs'], by trivial⟩
        case measure => simp [intOf]
      · have hs' : halfK r 2 = o ^^^ 997073096 := by rw [hs]; unfold bitStep; rw [if_pos (by simp; omega)]
        have ha : bits .and .u32 ((r : Int) / 2) 1 = 1 := by rw [hb] at ha0; simpa using ha0
        clear ha0
        clear hs hb
        go_wp2
        go_roundw
        case rel => exact ⟨2, by omega, rfl, by rw [hs', ← hx]; rfl, by trivial⟩
        case measure => simp [intOf]
    · have hs := halfK_succ r 2
      generalize halfK r 2 = o at hlt hs ⊢
      have ha0 := and1_u32 (r / 4) (by omega)
      have hx := xor_u32 o 1994146192 hlt (by decide)
      rcases Nat.mod_two_eq_zero_or_one (r / 4) with hb | hb
      · have hs' : halfK r 3 = o := by rw [hs]; unfold bitStep; rw [if_neg (by simp; omega)]
        have ha : bits .and .u32 ((r : Int) / 4) 1 = 0 := by rw [hb] at ha0; simpa using ha0
        clear ha0
        clear hs hb hx
        go_wp2
        go_roundw
        case rel => exact ⟨3, by omega, rfl, by rw [hs'], by trivial⟩
        case measure => simp [intOf]
      · have hs' : halfK r 3 = o ^^^ 1994146192 := by rw [hs]; unfold bitStep; rw [if_pos (by simp; omega)]
        have ha : bits .and .u32 ((r : Int) / 4) 1 = 1 := by rw [hb] at ha0; simpa using ha0
        clear ha0
        clear hs hb
        go_wp2
        go_roundw
        case rel => exact ⟨3, by omega, rfl, by rw [hs', ← hx]; rfl, by trivial⟩
        case measure => simp [intOf]
    · have hs := halfK_succ r 3
      generalize halfK r 3 = o at hlt hs ⊢
      have ha0 := and1_u32 (r / 8) (by omega)
      have hx := xor_u32 o 3988292384 hlt (by decide)
      rcases Nat.mod_two_eq_zero_or_one (r / 8) with hb | hb
      · have hs' : halfK r 4 = o := by rw [hs]; unfold bitStep; rw [if_neg (by simp; omega)]
        have ha : bits .and .u32 ((r : Int) / 8) 1 = 0 := by rw [hb] at ha0; simpa using ha0
        clear ha0
        clear hs hb hx
        go_wp2
        go_roundw
        case rel => exact ⟨4, by omega, rfl, by rw [hs'], by trivial⟩
        case measure => simp [intOf]
      · have hs' : halfK r 4 = o ^^^ 3988292384 := by rw [hs]; unfold bitStep; rw [if_pos (by simp; omega)]
        have ha : bits .and .u32 ((r : Int) / 8) 1 = 1 := by rw [hb] at ha0; simpa using ha0
        clear ha0
        clear hs hb
        go_wp2
        go_roundw
        case rel => exact ⟨4, by omega, rfl, by rw [hs', ← hx]; rfl, by trivial⟩
        case measure => simp [intOf]
    · rw [halfK_four]
      go_wp2
      go_ret
      exact ⟨rfl, rfl⟩

theorem Crc_ok {w : World} {v : Value} {l : List UInt8} (hv : Bs w v l) :
    Calls Tryz.prog 159 #[v] w fun e w' => e = .returned (.int .u32 (crcN l)) ∧ w = w' := by
  obtain ⟨a, cap, rfl, h1, h2, hel⟩ := hv.elems
  have hmax : l.length ≤ 9223372036854775807 := by unfold maxLen at h2; omega
  clear hv h1 h2
  have HE := Lib.hid hel
  clear hel
  go_enter Tryz.func159, Tryz.ntmps159
  go_wp2
  go_loopw [3, 8] (fun r k wr => ∃ i : Nat, i ≤ l.length ∧ k = .int .i64 i ∧ r = .int .u32 (crcGo 4294967295 (l.take i)) ∧ w = wr) (fun _ k _ => l.length - (intOf k).toNat)
  case atStart => exact ⟨0, by omega, rfl, rfl, rfl⟩
  case round =>
    obtain ⟨i, hi, rfl, rfl, rfl⟩ := hrel
    have hr := crcGo_lt (l.take i) 4294967295 (by decide)
    by_cases hlt : i < l.length
    · obtain ⟨g, o, rfl, hg, hcell⟩ := HE.out i hlt
      have hn : crcGo 4294967295 (l.take (i + 1)) = halfN (halfN (crcGo 4294967295 (l.take i) ^^^ l[i].toNat)) := by
        unfold crcGo
        rw [List.take_succ_eq_append_getElem hlt, List.foldl_append]; rfl
      have HN := Lib.hid hn
      clear hn
      have hc8 : l[i].toNat < 256 := l[i].toNat_lt
      have hx := xor_u32 (crcGo 4294967295 (l.take i)) l[i].toNat hr (by omega)
      have hxl : crcGo 4294967295 (l.take i) ^^^ l[i].toNat < 4294967296 := Nat.xor_lt_two_pow (n := 32) hr (by omega)
      have hcell' : w.cell? ⟨g, o + i, none⟩ = some (.int .u8 (l[i].toNat : Int)) := hcell
      have hid : ((l[i].toNat : Nat) : Int) % 4294967296 = (l[i].toNat : Int) := by omega
      generalize crcGo 4294967295 (l.take i) ^^^ l[i].toNat = x at hx hxl HN
      generalize crcGo 4294967295 (l.take i) = r at hx hr ⊢
      generalize l[i].toNat = c at hx hcell' hid hc8
      clear hcell
      go_wp2_with fail
      refine (half_ok x hxl w).mono ?_
      rintro e w1 ⟨rfl, rfl⟩
      go_wp2_with fail
      refine (half_ok (halfN x) (halfN_lt hxl) w).mono ?_
      rintro e w1 ⟨rfl, rfl⟩
      go_wp2
      go_roundw
      case rel => exact ⟨i + 1, by omega, by go_num, by rw [HN.out], by trivial⟩
      case measure => simp [intOf]; omega
    · obtain rfl : i = l.length := by omega
      rw [List.take_length] at hr ⊢
      have e : (4294967295 : Int) - (crcGo 4294967295 l : Int) = (crcN l : Int) := by unfold crcN; omega
      go_wp2
      go_ret
      exact ⟨rfl, rfl⟩
end Go.Proofs.YtkbenkldfehhlaaGreatDoor

namespace Go.Proofs.YtkbenkldfehhlaaGreatDoor
open Go Go.RowKit Go.Sort
set_option maxRecDepth 100000
set_option maxHeartbeats 1600000

theorem Concat_ok {w : World} {v a b : Value} {l k : List UInt8} (hs : SrcV 1 w v 2 [a, b]) (ha : Bs w a l) (hb : Bs w b k) (hl : l.length + k.length ≤ 100000000) :
    Calls Tryz.prog 160 #[v] w (NewB w (l ++ k)) := by
  obtain ⟨-, ⟨_, _, h0⟩ | ⟨g, o, cap, rfl, h1, h2, h3, h4⟩⟩ := hs
  · omega
  have c0 := h4 0 (by simp)
  have c1 := h4 1 (by simp)
  simp only [List.getElem_cons_zero, List.getElem_cons_succ, Nat.add_zero] at c0 c1
  obtain ⟨xa, ca, rfl, hla⟩ := ha.len
  obtain ⟨xb, cb, rfl, hlb⟩ := hb.len
  obtain ⟨i0, hi, hz0, hz1, hz2⟩ := info_parts infoU8
  have HI := Lib.hid hi
  have HZ0 := Lib.hid hz0
  have HZ1 := Lib.hid hz1
  have HZ2 := Lib.hid hz2
  have HA := Lib.hid ha
  have HB := Lib.hid hb
  clear hi hz0 hz1 hz2 ha hb h4 h1 h2 hla hlb
  go_enter Tryz.func160, Tryz.ntmps160
  go_wp2
  go_loopw [3, 11] (fun s i wr => ((i = .int .i64 0 ∧ s = .int .i64 0) ∨ (i = .int .i64 1 ∧ s = .int .i64 l.length) ∨ (i = .int .i64 2 ∧ s = .int .i64 ((l.length + k.length : Nat) : Int))) ∧ w = wr) (fun _ i _ => 2 - (intOf i).toNat)
  case atStart => exact ⟨.inl ⟨rfl, rfl⟩, rfl⟩
  case round =>
    obtain ⟨⟨rfl, rfl⟩ | ⟨rfl, rfl⟩ | ⟨rfl, rfl⟩, rfl⟩ := hrel
    · clear c1
      go_wp2
      go_roundw
      case rel => exact ⟨.inr (.inl ⟨rfl, by simp⟩), by trivial⟩
      case measure => simp [intOf]
    · clear c0
      go_wp2
      go_roundw
      case rel => exact ⟨.inr (.inr ⟨rfl, by simp⟩), by trivial⟩
      case measure => simp [intOf]
    · go_wp2_with fail
      refine (Grow_ok w (l.length + k.length) (by omega)).mono ?_
      rintro e w1 ⟨v1, rfl, hv1, hn1, hf1⟩
      have G1 := Lib.hid (And.intro hv1 (And.intro hn1 hf1))
      clear hv1 hn1 hf1
      go_wp2
      go_loopw [6, 27] (fun s i wr => ∃ m : List UInt8, ((i = .int .i64 0 ∧ m = []) ∨ (i = .int .i64 1 ∧ m = l) ∨ (i = .int .i64 2 ∧ m = l ++ k)) ∧ Vec 1 wr s m.length (m.map u8) ∧ Nw w wr ∧ ∀ g, s.ownBlock = some g → w.heap.size ≤ g) (fun _ i _ => 2 - (intOf i).toNat)
      case atStart => exact ⟨[], .inl ⟨rfl, rfl⟩, G1.out.1, G1.out.2.1, G1.out.2.2⟩
      case round =>
        obtain ⟨m, hc, hv, hn, hf⟩ := hrel
        obtain ⟨sm, cm, rfl, -⟩ := hv.len
        have e0 := hn.cell c0
        have e1 := hn.cell c1
        have hg : g < wr.heap.size := Nat.lt_of_lt_of_le h3 hn.size
        have HV := Lib.hid hv
        have HN := Lib.hid hn
        have HF := Lib.hid hf
        clear hv hn hf
        have SA := Lib.hid (SrcV.of_rd (HA.out.nw HN.out))
        have SB := Lib.hid (SrcV.of_rd (HB.out.nw HN.out))
        rcases hc with ⟨rfl, rfl⟩ | ⟨rfl, rfl⟩ | ⟨rfl, rfl⟩
        · clear e1
          go_wp2_with (at_builtin; refine wpList_append_vec rfl _ _ 79 rfl 5 i0 (.int .u8 0) 1 1 Tryz.underlying79 HI.out HZ0.out HZ1.out HZ2.out rfl (by decide) rfl rfl HV.out SA.out ?c1 ?c2 ?c3 ?_)
          case c1 => exact fun u hu => by obtain ⟨y, _, rfl⟩ := List.mem_map.1 hu; exact u8_cell y
          case c2 => simp only [List.length_nil]; unfold maxLen; omega
          case c3 => simp only [List.length_nil]; omega
          intro v' w2 q1 q2 q3
          have Q1 := Lib.hid q1
          have Q2 := Lib.hid q2
          have Q3 := Lib.hid q3
          clear q1 q2 q3
          go_wp2
          go_roundw
          case rel =>
            refine ⟨l, .inr (.inl ⟨rfl, rfl⟩), by simpa using Q1.out, HN.out.trans' Q2.out (fun j hj hb => by have := HF.out j hb; omega), fun j hj => ?_⟩
            rcases Q3.out with h | h
            · exact HF.out j (h ▸ hj)
            · exact Nat.le_trans HN.out.size (h j hj)
          case measure => simp [intOf]
        · clear e0
          go_wp2_with (at_builtin; refine wpList_append_vec rfl _ _ 79 rfl 5 i0 (.int .u8 0) 1 1 Tryz.underlying79 HI.out HZ0.out HZ1.out HZ2.out rfl (by decide) rfl rfl HV.out SB.out ?c1 ?c2 ?c3 ?_)
          case c1 => exact fun u hu => by obtain ⟨y, _, rfl⟩ := List.mem_map.1 hu; exact u8_cell y
          case c2 => unfold maxLen; omega
          case c3 => omega
          intro v' w2 q1 q2 q3
          have Q1 := Lib.hid q1
          have Q2 := Lib.hid q2
          have Q3 := Lib.hid q3
          clear q1 q2 q3
          go_wp2
          go_roundw
          case rel =>
            refine ⟨m ++ k, .inr (.inr ⟨rfl, rfl⟩), by have := Q1.out; rwa [← List.map_append, ← List.length_append] at this, HN.out.trans' Q2.out (fun j hj hb => by have := HF.out j hb; omega), fun j hj => ?_⟩
            rcases Q3.out with h | h
            · exact HF.out j (h ▸ hj)
            · exact Nat.le_trans HN.out.size (h j hj)
          case measure => simp [intOf]
        · go_wp2
          go_ret
          exact ⟨_, rfl, HV.out, HN.out, HF.out⟩

theorem Int_ok {w : World} {v : Value} {l : List UInt8} (hv : Vec 1 w v l.length (l.map u8)) (n : Int) (h0 : -9223372036854775808 ≤ n) (h1 : n ≤ 9223372036854775807) (hl : l.length ≤ 100000000) :
    Calls Tryz.prog 158 #[v, .int .i64 n] w fun e w' => ∃ v', e = .returned v' ∧ Vec 1 w' v' (l ++ intB n).length ((l ++ intB n).map u8) ∧ Only (fun k => v.ownBlock = some k) w w' ∧ (v'.ownBlock = v.ownBlock ∨ ∀ g, v'.ownBlock = some g → w.heap.size ≤ g) := by
  have HV := Lib.hid hv
  obtain ⟨sa, sc, rfl, -⟩ := hv.len
  clear hv
  go_enter Tryz.func158, Tryz.ntmps158
  go_wp2_with fail
  refine (folded_ok n h0 h1 w).mono ?_
  rintro e w1 ⟨rfl, rfl⟩
  go_wp2_with fail
  refine (Uint_ok HV.out (zig n) (zig_lt h0 h1) hl).mono ?_
  rintro e w1 ⟨v', rfl, q1, q2, q3⟩
  have Q := Lib.hid (And.intro q1 (And.intro q2 q3))
  clear q1 q2 q3
  go_wp2
  go_ret
  exact ⟨v', rfl, Q.out⟩

end Go.Proofs.YtkbenkldfehhlaaGreatDoor

namespace Go.Proofs.YtkbenkldfehhlaaGreatDoor
open Go Go.RowKit Go.Sort
set_option maxRecDepth 100000
set_option maxHeartbeats 1600000

theorem NewB.from {w W w' : World} {l : List UInt8} {e : Ending} (hw : Nw w W) (h : NewB W l e w') : NewB w l e w' := by
  obtain ⟨v', he, h1, h2, h3⟩ := h
  exact ⟨v', he, h1, hw.trans h2, fun g hg => Nat.le_trans hw.size (h3 g hg)⟩
def GrowB (v : Value) (w : World) (l : List UInt8) (e : Ending) (w' : World) : Prop :=
  ∃ v', e = .returned v' ∧ Vec 1 w' v' l.length (l.map u8) ∧ Only (fun k => v.ownBlock = some k) w w' ∧ (v'.ownBlock = v.ownBlock ∨ ∀ g, v'.ownBlock = some g → w.heap.size ≤ g)

theorem Seal_ok {w : World} {v : Value} {l : List UInt8} (hv : Bs w v l) (hl : l.length ≤ 99999990) :
    Calls Tryz.prog 128 #[v] w (NewB w (sealB sumB l)) := by
  have HV := Lib.hid hv
  obtain ⟨sa, sc, rfl, -⟩ := hv.len
  clear hv
  go_enter Tryz.func128, Tryz.ntmps128
  go_wp2_with fail
  refine (Crc_ok HV.out).mono ?_
  rintro e w1 ⟨rfl, rfl⟩
  have hs := crcN_lt l
  have hsum : sumB l = [UInt8.ofNat (crcN l / 16777216), UInt8.ofNat (crcN l / 65536), UInt8.ofNat (crcN l / 256), UInt8.ofNat (crcN l)] := rfl
  have hcells : (#[.int .u8 ((crcN l : Int) / 16777216), .int .u8 ((crcN l : Int) / 65536 % 256), .int .u8 ((crcN l : Int) / 256 % 256), .int .u8 ((crcN l : Int) % 256)] : Array Value) = ((sumB l).map u8).toArray := by
    rw [hsum]
    simp only [List.map_cons, List.map_nil, u8, UInt8.toNat_ofNat']
    congr 1
    rw [show ((crcN l / 16777216 % 2 ^ 8 : Nat) : Int) = (crcN l : Int) / 16777216 by omega, show ((crcN l / 65536 % 2 ^ 8 : Nat) : Int) = (crcN l : Int) / 65536 % 256 by omega,
      show ((crcN l / 256 % 2 ^ 8 : Nat) : Int) = (crcN l : Int) / 256 % 256 by omega, show ((crcN l % 2 ^ 8 : Nat) : Int) = (crcN l : Int) % 256 by omega]
  have HS := Lib.hid hcells
  have HL : Hid ((sumB l).length = 4) := Lib.hid rfl
  have HQ : Hid (sealB sumB l = l ++ sumB l) := Lib.hid rfl
  clear hsum hcells
  generalize crcN l = s at *
  generalize sumB l = sm at *
  go_wp2_with fail
  rw [HS.out]
  have hn0 : Nw w (w.alloc (.cells (sm.map u8).toArray 5 (0, 0))) := (Nw.refl w).alloc _
  have hn1 := hn0.alloc (.cells #[.slice sa l.length sc, .slice (some ⟨w.heap.size, 0, none⟩) 4 4] 79 (0, 0))
  have s2 : Bs (w.alloc (.cells (sm.map u8).toArray 5 (0, 0))) (.slice (some ⟨w.heap.size, 0, none⟩) 4 4) sm := by
    have := rd_lit (f := u8) w 5 (0, 0) sm _ 4 rfl (by rw [HL.out]; exact Nat.le_refl 4) (by decide)
    rw [HL.out] at this
    exact this
  have s3 := src_lit (w.alloc (.cells (sm.map u8).toArray 5 (0, 0))) 79 (0, 0) 1 2 2 [.slice sa l.length sc, .slice (some ⟨w.heap.size, 0, none⟩) 4 4] rfl (by omega) (by decide)
  rw [World.size_alloc] at s3
  refine (Concat_ok s3 (HV.out.nw hn1) (s2.nw ((Nw.refl _).alloc _)) (by rw [HL.out]; omega)).mono ?_
  rintro e w1 ⟨v', rfl, q1, q2, q3⟩
  have Q := Lib.hid (NewB.from hn1 (e := .returned v') ⟨v', rfl, q1, q2, q3⟩)
  clear q1 q2 q3 hn0 hn1 s2 s3
  go_wp2
  go_ret
  obtain ⟨v2, h, q⟩ := Q.out
  obtain rfl := Ending.returned.inj h
  rw [HQ.out]
  exact ⟨_, rfl, q⟩

theorem Blob_ok {w : World} {v b : Value} {l k : List UInt8} (hv : Vec 1 w v l.length (l.map u8)) (hb : Bs w b k) (hne : k ≠ [] → ∀ g, b.ownBlock = some g → v.ownBlock ≠ some g) (hl : l.length ≤ 90000000) (hk : k.length ≤ 1000000) :
    Calls Tryz.prog 151 #[v, b] w (GrowB v w (l ++ blobB k)) := by
  have HV := Lib.hid hv
  have HB := Lib.hid hb
  have HNE := Lib.hid hne
  obtain ⟨sa, sc, rfl, -⟩ := hv.len
  obtain ⟨ba, bc, rfl, -⟩ := hb.len
  clear hv hb hne
  have hm : ((k.length : Nat) : Int) % 18446744073709551616 = k.length := by omega
  go_enter Tryz.func151, Tryz.ntmps151
  go_wp2_with fail
  refine (Uint_ok HV.out k.length (by omega) (by omega)).mono ?_
  rintro e w1 ⟨v1, rfl, q1, q2, q3⟩
  have hlen := uintB_len k.length 10 (by omega) (Nat.lt_trans (show k.length < 2 ^ 64 by omega) (by decide))
  obtain ⟨xa, xc, rfl, -⟩ := q1.len
  have HB1 := Lib.hid (HB.out.keep q2 (fun h g hg hx => HNE.out h g hg hx))
  have Q := Lib.hid (And.intro q1 (And.intro q2 q3))
  clear q1 q2 q3 HB
  have hl1 : (l ++ uintB k.length).length ≤ l.length + 10 := by rw [List.length_append]; omega
  have HJ : Hid (l ++ blobB k = (l ++ uintB k.length) ++ k) := Lib.hid (List.append_assoc _ _ _).symm
  clear hlen
  generalize l ++ uintB k.length = l1 at *
  go_wp2_with fail
  have s3 := src_lit w1 79 (0, 0) 1 2 2 [.slice xa l1.length xc, .slice ba k.length bc] rfl (by omega) (by decide)
  have hn := (Nw.refl w1).alloc (.cells #[.slice xa l1.length xc, .slice ba k.length bc] 79 (0, 0))
  refine (Concat_ok s3 (Q.out.1.rd.nw hn) (HB1.out.nw hn) (by omega)).mono ?_
  rintro e w2 ⟨v', rfl, q1, q2, q3⟩
  have P := Lib.hid (And.intro q1 (And.intro (hn.trans q2) q3))
  clear q1 q2 q3 hn s3
  go_wp2
  go_ret
  refine ⟨v', rfl, ?_, ?_, .inr fun g hg => ?_⟩
  · rw [HJ.out]; exact P.out.1
  · exact Q.out.2.1.trans P.out.2.1.only
  · have h1 := P.out.2.2 g hg
    have h2 := Q.out.2.1.size
    simp only [World.size_alloc] at h1
    omega
end Go.Proofs.YtkbenkldfehhlaaGreatDoor

namespace Go.Proofs.YtkbenkldfehhlaaGreatDoor
open Go Go.RowKit Go.Sort
set_option maxRecDepth 100000
set_option maxHeartbeats 1600000

def evV (e : Ev) : List Value := [.int .i64 e.thread, .int .u8 e.op.toNat, .int .i64 e.obj, .int .i64 e.a, .int .i64 e.b]
def MoreB (p : Nat) (v : Value) (w : World) (l : List UInt8) (e : Ending) (w' : World) : Prop :=
  e = .returned (.tuple #[]) ∧ ∃ v', w'.heap[p]? = some (.cells #[v'] 79 (0, 0)) ∧ Vec 1 w' v' l.length (l.map u8) ∧ Only (fun k => v.ownBlock = some k ∨ k = p) w w' ∧ (v'.ownBlock = v.ownBlock ∨ ∀ g, v'.ownBlock = some g → w.heap.size ≤ g)

theorem Put1_ok {w : World} {v : Value} {l : List UInt8} (p : Nat) (hp : w.heap[p]? = some (.cells #[v] 79 (0, 0))) (hv : Vec 1 w v l.length (l.map u8)) (hne : v.ownBlock ≠ some p) (a b : Int) (_ha : in64 a) (_hb : in64 b) (hl : l.length ≤ 90000000) :
    Calls Tryz.prog 157 #[.int .i64 a, .int .i64 b, .pointer (some ⟨p, 0, none⟩)] w (MoreB p v w (l ++ intB (w64 (b - a)))) := by
  have c0 : w.cell? ⟨p, 0, none⟩ = some v := by simp [World.cell?, hp]
  have f0 : w.frozen? ⟨p, 0, none⟩ = false := by simp [World.frozen?, hp]
  have HV := Lib.hid hv
  have HP := Lib.hid hp
  have HNE := Lib.hid hne
  obtain ⟨sa, sc, rfl, -⟩ := hv.len
  have hw : IntKind.i64.wrap (b - a) = w64 (b - a) := by rw [IntKind.wrap_i64]; rfl
  have hin := w64_in (b - a)
  clear hv hp hne _ha _hb
  generalize hx : w64 (b - a) = x at *
  clear hx
  go_enter Tryz.func157, Tryz.ntmps157
  go_wp2_with fail
  refine (Int_ok HV.out x hin.1 hin.2 (by omega)).mono ?_
  rintro e w1 ⟨v1, rfl, q1, q2, q3⟩
  generalize l ++ intB x = l1 at *
  obtain ⟨xa, xc, rfl, -⟩ := q1.len
  have hp1 : w1.heap[p]? = some (.cells #[.slice sa l.length sc] 79 (0, 0)) := q2.at_ HP.out HNE.out
  have g1 : w1.cell? ⟨p, 0, none⟩ = some (.slice sa l.length sc) := by simp [World.cell?, hp1]
  have g2 : w1.frozen? ⟨p, 0, none⟩ = false := by simp [World.frozen?, hp1]
  have hpl : p < w.heap.size := lt_of_block HP.out
  have hne1 : (Value.slice xa l1.length xc).ownBlock ≠ some p := fun hc => by
    rcases q3 with h | h
    · exact HNE.out (h ▸ hc)
    · have := h p hc; omega
  have HP1 := Lib.hid hp1
  have Q := Lib.hid (And.intro q1 (And.intro q2 q3))
  have HN1 := Lib.hid hne1
  clear q1 q2 q3 hp1 hne1
  go_wp2
  refine bodyPost_ret (v := .tuple #[]) (results_none rfl _ _ _) rfl ⟨rfl, _, one_setCell HP1.out, ?_, ?_, Q.out.2.2⟩
  · refine Q.out.1.keep (by simp) fun g hg => ?_
    exact Below.heap_setCell _ _ _ _ (fun e => HN1.out (by rw [hg, e]))
  · exact Only.setCell (Q.out.2.1.mono fun k _ hk => .inl hk) (fun _ => .inr rfl) _

structure PutS (w : World) (v : Value) (h e : Ev) (l : List UInt8) (w1 : World) : Prop where
  box : ∃ v1, w1.heap[w.heap.size]? = some (.cells #[v1] 79 (0, 0)) ∧ Vec 1 w1 v1 l.length (l.map u8) ∧ (v1.ownBlock = v.ownBlock ∨ ∀ g, v1.ownBlock = some g → w.heap.size + 3 ≤ g)
  hd : w1.heap[w.heap.size + 1]? = some (.cells (evV h).toArray 87 (0, 0))
  ev : w1.heap[w.heap.size + 1 + 1]? = some (.cells (evV e).toArray 87 (0, 0))
  only : Only (fun k => v.ownBlock = some k) w w1
  lt : w.heap.size + 3 ≤ w1.heap.size
theorem PutS.cells {w : World} {v : Value} {h e : Ev} {l : List UInt8} {w1 : World} (H : PutS w v h e l w1) :
    w1.cell? ⟨w.heap.size + 1, 0, none⟩ = some (.int .i64 h.thread) ∧ w1.cell? ⟨w.heap.size + 1, 2, none⟩ = some (.int .i64 h.obj) ∧ w1.cell? ⟨w.heap.size + 1, 3, none⟩ = some (.int .i64 h.a) ∧ w1.cell? ⟨w.heap.size + 1, 4, none⟩ = some (.int .i64 h.b) ∧
    w1.cell? ⟨w.heap.size + 1 + 1, 0, none⟩ = some (.int .i64 e.thread) ∧ w1.cell? ⟨w.heap.size + 1 + 1, 2, none⟩ = some (.int .i64 e.obj) ∧ w1.cell? ⟨w.heap.size + 1 + 1, 3, none⟩ = some (.int .i64 e.a) ∧ w1.cell? ⟨w.heap.size + 1 + 1, 4, none⟩ = some (.int .i64 e.b) := by
  have h1 := H.hd
  have h2 := H.ev
  simp [World.cell?, h1, h2, evV]
theorem PutS.more {w : World} {v : Value} {h e : Ev} {l : List UInt8} {w1 : World} (H : PutS w v h e l w1) (hv : ∀ g, v.ownBlock = some g → g < w.heap.size) (a b : Int) (ha : in64 a) (hb : in64 b) (hl : l.length ≤ 90000000) :
    Calls Tryz.prog 157 #[.int .i64 a, .int .i64 b, .pointer (some ⟨w.heap.size, 0, none⟩)] w1 fun x w2 => x = .returned (.tuple #[]) ∧ PutS w v h e (l ++ intB (w64 (b - a))) w2 := by
  obtain ⟨v1, h1, h2, h3⟩ := H.box
  have hlt := H.lt
  have hno : ∀ g, v1.ownBlock = some g → g ≠ w.heap.size ∧ g ≠ w.heap.size + 1 ∧ g ≠ w.heap.size + 1 + 1 := fun g hg => by
    rcases h3 with h | h
    · have := hv g (h ▸ hg); omega
    · have := h g hg; omega
  refine (Put1_ok w.heap.size h1 h2 (fun hc => (hno _ hc).1 rfl) a b ha hb hl).mono ?_
  rintro x w2 ⟨rfl, v2, q1, q2, q3, q4⟩
  have hno2 : ∀ k, k = w.heap.size + 1 ∨ k = w.heap.size + 1 + 1 → ¬ (v1.ownBlock = some k ∨ k = w.heap.size) := by
    rintro k hk (hc | hc)
    · have := hno k hc; omega
    · omega
  refine ⟨rfl, ⟨v2, q1, q2, ?_⟩, q3.at_ H.hd (hno2 _ (.inl rfl)), q3.at_ H.ev (hno2 _ (.inr rfl)), ?_, Nat.le_trans hlt q3.size⟩
  · rcases q4 with h | h
    · rw [h]; exact h3
    · exact .inr fun g hg => Nat.le_trans hlt (h g hg)
  · refine H.only.trans' q3 fun k hk hc => ?_
    rcases hc with hc | hc
    · rcases h3 with h | h
      · exact h ▸ hc
      · have := h k hc; omega
    · omega
theorem Put_ok {w : World} {v : Value} {l : List UInt8} (hv : Vec 1 w v l.length (l.map u8)) (h e : Ev) (hh : h.Ok) (he : e.Ok) (hl : l.length ≤ 80000000) :
    Calls Tryz.prog 127 #[v, .agg (evV h).toArray, .agg (evV e).toArray] w (GrowB v w (l ++ putE h e)) := by
  have HV := Lib.hid hv
  have hlt := hv.lt
  obtain ⟨sa, sc, rfl, -⟩ := hv.len
  clear hv
  obtain ⟨i0, hi, hz0, hz1, hz2⟩ := info_parts infoU8
  have HI := Lib.hid hi
  have HZ0 := Lib.hid hz0
  have HZ1 := Lib.hid hz1
  have HZ2 := Lib.hid hz2
  clear hi hz0 hz1 hz2
  have HLT := Lib.hid hlt
  clear hlt
  have HH := Lib.hid hh
  have HE := Lib.hid he
  clear hh he
  have hz : ∀ g, sa.map (·.block) = some g → True := fun _ _ => trivial
  clear hz
  go_enter Tryz.func127, Tryz.ntmps127
  have hn3 : Nw w (((w.alloc (.cells #[.slice sa l.length sc] 79 (0, 0))).alloc (.cells (evV h).toArray 87 (0, 0))).alloc (.cells (evV e).toArray 87 (0, 0))) := (((Nw.refl w).alloc _).alloc _).alloc _
  have hn4 := hn3.alloc (.cells #[.int .u8 e.op.toNat] 5 (0, 0))
  have V4 := Lib.hid (HV.out.nw hn4)
  have s4 := src_lit (((w.alloc (.cells #[.slice sa l.length sc] 79 (0, 0))).alloc (.cells (evV h).toArray 87 (0, 0))).alloc (.cells (evV e).toArray 87 (0, 0))) 5 (0, 0) 1 1 1 [.int .u8 e.op.toNat] rfl (by omega) (by decide)
  simp only [World.size_alloc] at s4
  have X4 := Lib.hid s4
  have B4 : Hid (∃ W4, W4 = (((w.alloc (.cells #[.slice sa l.length sc] 79 (0, 0))).alloc (.cells (evV h).toArray 87 (0, 0))).alloc (.cells (evV e).toArray 87 (0, 0))).alloc (.cells #[.int .u8 e.op.toNat] 5 (0, 0)) ∧
      W4.heap[w.heap.size]? = some (.cells #[.slice sa l.length sc] 79 (0, 0)) ∧ W4.heap[w.heap.size + 1]? = some (.cells (evV h).toArray 87 (0, 0)) ∧ W4.heap[w.heap.size + 1 + 1]? = some (.cells (evV e).toArray 87 (0, 0)) ∧ w.heap.size + 3 ≤ W4.heap.size ∧ Nw w W4) := by
    refine ⟨_, rfl, ?_, ?_, ?_, by simp, hn4⟩
    · exact heap_alloc_old _ _ (by simp; omega) |>.trans (heap_alloc_old _ _ (by simp; omega) |>.trans (heap_alloc_old _ _ (by simp) |>.trans (heap_alloc_new w _)))
    · have := heap_alloc_new (w.alloc (.cells #[.slice sa l.length sc] 79 (0, 0))) (.cells (evV h).toArray 87 (0, 0))
      exact heap_alloc_old _ _ (by simp) |>.trans (heap_alloc_old _ _ (by simp) |>.trans (by simpa using this))
    · have := heap_alloc_new ((w.alloc (.cells #[.slice sa l.length sc] 79 (0, 0))).alloc (.cells (evV h).toArray 87 (0, 0))) (.cells (evV e).toArray 87 (0, 0))
      exact heap_alloc_old _ _ (by simp) |>.trans (by simpa using this)
  clear hn3 hn4 s4
  unfold evV at V4 X4 B4 ⊢
  go_wp2_with (at_builtin; refine wpList_append_vec rfl _ _ 79 rfl 5 i0 (.int .u8 0) 1 1 Tryz.underlying79 HI.out HZ0.out HZ1.out HZ2.out rfl (by decide) rfl rfl V4.out X4.out ?c1 ?c2 ?c3 ?_)
  case c1 => exact fun u hu => by rw [List.mem_singleton] at hu; subst hu; rfl
  case c2 => unfold maxLen; omega
  case c3 => omega
  intro v1 w2 q1 q2 q3
  obtain ⟨xa, xc, rfl, -⟩ := q1.len
  obtain ⟨W4, hW4, b0, b1, b2, b3, b4⟩ := B4.out
  rw [← hW4] at q2
  have hv0 : ∀ g, (Value.slice sa l.length sc).ownBlock = some g → g < w.heap.size := HLT.out
  have c0 : w2.cell? ⟨w.heap.size, 0, none⟩ = some (.slice sa l.length sc) := by
    have := q2.at_ b0 (fun hc => by have := hv0 _ hc; omega)
    simp [World.cell?, this]
  have f0 : w2.frozen? ⟨w.heap.size, 0, none⟩ = false := by
    have := q2.at_ b0 (fun hc => by have := hv0 _ hc; omega)
    simp [World.frozen?, this]
  have S0 : Hid (PutS w (.slice sa l.length sc) h e (l ++ [e.op]) (w2.setCell ⟨w.heap.size, 0, none⟩ (.slice xa (l.length + 1) xc))) := by
    have hne : (Value.slice xa (l.length + 1) xc).ownBlock ≠ some w.heap.size := fun hc => by
      rcases q3 with h | h
      · have := hv0 _ (h ▸ hc); omega
      · have := h _ hc; omega
    refine ⟨⟨_, one_setCell (q2.at_ b0 (fun hc => by have := hv0 _ hc; omega)), ?_, ?_⟩, ?_, ?_, ?_, ?_⟩
    · refine Vec.keep (w := w2) ?_ (by simp) fun g hg => Below.heap_setCell _ _ _ _ (fun e => hne (by rw [hg, e]))
      rw [List.map_append, List.length_append]
      exact q1
    · exact q3.imp id fun h g hg => by have := h g hg; omega
    · rw [Below.heap_setCell _ _ _ _ (by simp)]
      exact q2.at_ b1 (fun hc => by have := hv0 _ hc; omega)
    · rw [Below.heap_setCell _ _ _ _ (by simp; omega)]
      exact q2.at_ b2 (fun hc => by have := hv0 _ hc; omega)
    · exact Only.setCell (b4.only.trans' q2 (fun k _ hk => hk)) (fun h => absurd h (by simp)) _
    · have := q2.size; simp; omega
  have L0 : Hid ((l ++ [e.op]).length ≤ l.length + 1) := Lib.hid (by simp)
  obtain ⟨va, hva⟩ : ∃ W, w2.setCell ⟨w.heap.size, 0, none⟩ (.slice xa (l.length + 1) xc) = W := ⟨_, rfl⟩
  rw [hva] at S0
  have HVA := Lib.hid hva
  clear hva q1 q2 q3 b0 b1 b2 b3 b4 hW4 hv0 B4 V4 X4
  obtain ⟨l0, hl0⟩ : ∃ l0, l0 = l ++ [e.op] := ⟨_, rfl⟩
  rw [← hl0] at S0 L0
  have E0 := Lib.hid hl0
  clear hl0
  obtain ⟨h0, h2, h3, h4, e0, e2, e3, e4⟩ := S0.out.cells
  rw [← HVA.out] at S0 h0 h2 h3 h4 e0 e2 e3 e4
  clear HVA va
  go_wp2_with fail
  refine (S0.out.more HLT.out h.thread e.thread HH.out.thread HE.out.thread (by have := L0.out; omega)).mono ?_
  rintro x w1 ⟨rfl, q⟩
  have S1 := Lib.hid q
  have L1 : Hid ((l0 ++ intB (w64 (e.thread - h.thread))).length ≤ l.length + 11) := by
    have h1 := L0.out
    have h2 := intB_len (w64_in (e.thread - h.thread))
    show _ ≤ _
    rw [List.length_append]; omega
  have E1 : Hid (l0 ++ intB (w64 (e.thread - h.thread)) = (l ++ [e.op]) ++ intB (w64 (e.thread - h.thread))) := by show _ = _; rw [E0.out]
  clear q S0
  generalize l0 ++ intB (w64 (e.thread - h.thread)) = l1 at S1 L1 E1
  obtain ⟨h0, h2, h3, h4, e0, e2, e3, e4⟩ := S1.out.cells
  go_wp2_with fail
  refine (S1.out.more HLT.out h.obj e.obj HH.out.obj HE.out.obj (by have := L1.out; omega)).mono ?_
  rintro x w2 ⟨rfl, q⟩
  have S2 := Lib.hid q
  have L2 : Hid ((l1 ++ intB (w64 (e.obj - h.obj))).length ≤ l.length + 21) := by
    have h1 := L1.out
    have h2 := intB_len (w64_in (e.obj - h.obj))
    show _ ≤ _
    rw [List.length_append]; omega
  have E2 : Hid (l1 ++ intB (w64 (e.obj - h.obj)) = ((l ++ [e.op]) ++ intB (w64 (e.thread - h.thread))) ++ intB (w64 (e.obj - h.obj))) := by show _ = _; rw [E1.out]
  clear q S1
  generalize l1 ++ intB (w64 (e.obj - h.obj)) = l2 at S2 L2 E2
  obtain ⟨h0, h2, h3, h4, e0, e2, e3, e4⟩ := S2.out.cells
  go_wp2_with fail
  refine (S2.out.more HLT.out h.a e.a HH.out.a HE.out.a (by have := L2.out; omega)).mono ?_
  rintro x w3 ⟨rfl, q⟩
  have S3 := Lib.hid q
  have L3 : Hid ((l2 ++ intB (w64 (e.a - h.a))).length ≤ l.length + 31) := by
    have h1 := L2.out
    have h2 := intB_len (w64_in (e.a - h.a))
    show _ ≤ _
    rw [List.length_append]; omega
  have E3 : Hid (l2 ++ intB (w64 (e.a - h.a)) = (((l ++ [e.op]) ++ intB (w64 (e.thread - h.thread))) ++ intB (w64 (e.obj - h.obj))) ++ intB (w64 (e.a - h.a))) := by show _ = _; rw [E2.out]
  clear q S2
  generalize l2 ++ intB (w64 (e.a - h.a)) = l3 at S3 L3 E3
  obtain ⟨h0, h2, h3, h4, e0, e2, e3, e4⟩ := S3.out.cells
  go_wp2_with fail
  refine (S3.out.more HLT.out h.b e.b HH.out.b HE.out.b (by have := L3.out; omega)).mono ?_
  rintro x w4 ⟨rfl, q⟩
  have S4 := Lib.hid q
  have L4 : Hid ((l3 ++ intB (w64 (e.b - h.b))).length ≤ l.length + 41) := by
    have h1 := L3.out
    have h2 := intB_len (w64_in (e.b - h.b))
    show _ ≤ _
    rw [List.length_append]; omega
  have E4 : Hid (l3 ++ intB (w64 (e.b - h.b)) = ((((l ++ [e.op]) ++ intB (w64 (e.thread - h.thread))) ++ intB (w64 (e.obj - h.obj))) ++ intB (w64 (e.a - h.a))) ++ intB (w64 (e.b - h.b))) := by show _ = _; rw [E3.out]
  clear q S3
  generalize l3 ++ intB (w64 (e.b - h.b)) = l4 at S4 L4 E4
  obtain ⟨h0, h2, h3, h4, e0, e2, e3, e4⟩ := S4.out.cells
  have HF : Hid (l ++ putE h e = l4) := by
    show _ = _
    rw [E4.out]
    simp [putE]
  obtain ⟨v4, d1, d2, d3⟩ := S4.out.box
  have c4 : w4.cell? ⟨w.heap.size, 0, none⟩ = some v4 := by simp [World.cell?, d1]
  obtain ⟨za, zc, rfl, -⟩ := d2.len
  have D2 := Lib.hid (And.intro d2 d3)
  clear d1 d2 d3 h0 h2 h3 h4 e0 e2 e3 e4
  go_wp2
  go_ret
  refine ⟨_, rfl, ?_, S4.out.only, D2.out.2.imp id fun h g hg => by have := h g hg; omega⟩
  rw [HF.out]; exact D2.out.1
end Go.Proofs.YtkbenkldfehhlaaGreatDoor
