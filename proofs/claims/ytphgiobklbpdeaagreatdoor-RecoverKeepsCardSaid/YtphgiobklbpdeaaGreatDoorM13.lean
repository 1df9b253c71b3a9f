/-
  Texts merged by a program of this claim's: BytesB, BytesC, Texts, Has.
-/
import Derived.Test.YtphgiobklbpdeaaGreatDoorM12
import Derived.Shelf.Spec.TrailingZeros
import Derived.Test.YtphgiobklbpdeaaGreatDoorM9
import Derived.Lib.SlBytesConst
/-
  Package bytes, walked: folded, half, the sum.
-/
namespace Go.Proofs.YtphgiobklbpdeaaGreatDoor
open Go Go.RowKit Go.Sort
set_option maxRecDepth 100000
set_option maxHeartbeats 1600000

theorem xor_u32 (a b : Nat) (ha : a < 4294967296) (hb : b < 4294967296) : bits .xor .u32 (a : Int) (b : Int) = ((a ^^^ b : Nat) : Int) := by
  show IntKind.u32.wrap ((BitVec.ofInt 32 (a : Int) ^^^ BitVec.ofInt 32 (b : Int)).toNat : Int) = _
  have h1 : (BitVec.ofInt 32 (a : Int)).toNat = a := by rw [BitVec.ofInt_natCast, BitVec.toNat_ofNat]; exact Nat.mod_eq_of_lt (by omega)
  have h2 : (BitVec.ofInt 32 (b : Int)).toNat = b := by rw [BitVec.ofInt_natCast, BitVec.toNat_ofNat]; exact Nat.mod_eq_of_lt (by omega)
  have h3 : a ^^^ b < 4294967296 := Nat.xor_lt_two_pow (n := 32) ha hb
  rw [BitVec.toNat_xor, h1, h2]
  exact wraps_u32 _ (by omega) (by omega)
theorem and1_u32 (a : Nat) (ha : a < 4294967296) : bits .and .u32 (a : Int) 1 = ((a % 2 : Nat) : Int) := by
  have := bits_mask .u32 32 (by decide) wraps_u32 1 (by decide) (a : Int) (by omega) (by omega)
  rw [show ((2 : Int) ^ 1 - 1) = 1 by decide] at this
  rw [this]; omega

theorem folded_ok (n : Int) (h0 : -9223372036854775808 ≤ n) (h1 : n ≤ 9223372036854775807) (w : World) :
    Calls Tryz.prog 202 #[.int .i64 n] w fun e w' => e = .returned (.int .u64 (zig n)) ∧ w = w' := by
  by_cases hn : 0 ≤ n
  · have e3 := bits_xor_u64_nat 0 (2 * n.toNat) (by omega) (by omega)
    rw [Nat.zero_xor, show ((2 * n.toNat : Nat) : Int) = n * 2 by omega] at e3
    have e4 : ((zig n : Nat) : Int) = n * 2 := by unfold zig; rw [if_pos hn]; omega
    have E := Lib.hid (e3.trans e4.symm)
    clear e3 e4
    have e1 : n / 9223372036854775808 = 0 := by omega
    go_enter Tryz.func202, Tryz.ntmps202
    go_wp2
    go_ret
    refine ⟨ret1 ?_, rfl⟩
    have := E.out
    simpa [e1] using this
  · have e2 : IntKind.u64.wrap (IntKind.u64.wrap n * 2) = (((2 * n + 18446744073709551616).toNat : Nat) : Int) := by rw [IntKind.wrap_u64, IntKind.wrap_u64]; omega
    have e0 : IntKind.u64.wrap (-1) = ((2 ^ 64 - 1 : Nat) : Int) := by decide
    have e3 := bits_xor_u64_nat (2 ^ 64 - 1) (2 * n + 18446744073709551616).toNat (by decide) (by omega)
    rw [Lib.xor_ones64 _ (by omega), ← e2, ← e0] at e3
    have e4 : zig n = 2 ^ 64 - 1 - (2 * n + 18446744073709551616).toNat := by unfold zig; rw [if_neg hn]; omega
    rw [← e4] at e3
    have E := Lib.hid e3
    clear e3 e4 e2 e0
    have e1 : n / 9223372036854775808 = -1 := by omega
    go_enter Tryz.func202, Tryz.ntmps202
    go_wp2
    go_ret
    refine ⟨ret1 ?_, rfl⟩
    have := E.out
    simpa [e1] using this

def halfK (r k : Nat) : Nat := (List.range k).foldl (fun o k => bitStep k r o) (r / 16)
theorem halfK_succ (r k : Nat) : halfK r (k + 1) = bitStep k r (halfK r k) := by simp [halfK, List.range_succ]
theorem halfK_lt {r : Nat} (h : r < 4294967296) : ∀ k, halfK r k < 4294967296
  | 0 => by simp only [halfK, List.range_zero, List.foldl_nil]; omega
  | k + 1 => by rw [halfK_succ]; exact bitStep_lt (halfK_lt h k)
theorem halfK_four (r : Nat) : halfK r 4 = halfN r := by
  simp only [halfK_succ, halfN]; rfl

theorem half_ok (r : Nat) (h : r < 4294967296) (w : World) :
    Calls Tryz.prog 150 #[.int .u32 r] w fun e w' => e = .returned (.int .u32 (halfN r)) ∧ w = w' := by
  go_enter Tryz.func150, Tryz.ntmps150
  go_wp2
  go_loopw [3, 7] (fun o k wr => ∃ i : Nat, i ≤ 4 ∧ k = .int .i64 i ∧ o = .int .u32 (halfK r i) ∧ w = wr) (fun _ k _ => 4 - (intOf k).toNat)
  case atStart => exact ⟨0, by omega, rfl, by simp [halfK], rfl⟩
  case round =>
    obtain ⟨i, hi, rfl, rfl, rfl⟩ := hrel
    have hlt := halfK_lt h i
    have hc : i = 0 ∨ i = 1 ∨ i = 2 ∨ i = 3 ∨ i = 4 := by omega
    rcases hc with rfl | rfl | rfl | rfl | rfl
    · have hs := halfK_succ r 0
      generalize halfK r 0 = o at hlt hs ⊢
      have ha0 := and1_u32 (r) (by omega)
      have hx := xor_u32 o 498536548 hlt (by decide)
      rcases Nat.mod_two_eq_zero_or_one (r) with hb | hb
      · have hs' : halfK r 1 = o := by rw [hs]; unfold bitStep; rw [if_neg (by simp; omega)]
        have ha : bits .and .u32 (r : Int) 1 = 0 := by rw [hb] at ha0; simpa using ha0
        clear ha0
        clear hs hb hx
        go_wp2
        go_roundw
        case rel => exact ⟨1, by omega, rfl, by rw [hs'], by trivial⟩
        case measure => simp [intOf]
      · have hs' : halfK r 1 = o ^^^ 498536548 := by rw [hs]; unfold bitStep; rw [if_pos (by simp; omega)]
        have ha : bits .and .u32 (r : Int) 1 = 1 := by rw [hb] at ha0; simpa using ha0
        clear ha0
        clear hs hb
        go_wp2
        go_roundw
        case rel => exact ⟨1, by omega, rfl, by rw [hs', ← hx]; rfl, by trivial⟩
        case measure => simp [intOf]
    · have hs := halfK_succ r 1
      generalize halfK r 1 = o at hlt hs ⊢
      have ha0 := and1_u32 (r / 2) (by omega)
      have hx := xor_u32 o 997073096 hlt (by decide)
      rcases Nat.mod_two_eq_zero_or_one (r / 2) with hb | hb
      · have hs' : halfK r 2 = o := by rw [hs]; unfold bitStep; rw [if_neg (by simp; omega)]
        have ha : bits .and .u32 ((r : Int) / 2) 1 = 0 := by rw [hb] at ha0; simpa using ha0
        clear ha0
        clear hs hb hx
        go_wp2
        go_roundw
        case rel => exact ⟨2, by omega, rfl, by rw [hs'], by trivial⟩
        case measure => simp [intOf]
      · have hs' : halfK r 2 = o ^^^ 997073096 := by rw [hs]; unfold bitStep; rw [if_pos (by simp; omega)]
        have ha : bits .and .u32 ((r : Int) / 2) 1 = 1 := by rw [hb] at ha0; simpa using ha0
        clear ha0
        clear hs hb
        go_wp2
        go_roundw
        case rel => exact ⟨2, by omega, rfl, by rw [hs', ← hx]; rfl, by trivial⟩
        case measure => simp [intOf]
    · have hs := halfK_succ r 2
      generalize halfK r 2 = o at hlt hs ⊢
      have ha0 := and1_u32 (r / 4) (by omega)
      have hx := xor_u32 o 1994146192 hlt (by decide)
      rcases Nat.mod_two_eq_zero_or_one (r / 4) with hb | hb
      · have hs' : halfK r 3 = o := by rw [hs]; unfold bitStep; rw [if_neg (by simp; omega)]
        have ha : bits .and .u32 ((r : Int) / 4) 1 = 0 := by rw [hb] at ha0; simpa using ha0
        clear ha0
        clear hs hb hx
        go_wp2
        go_roundw
        case rel => exact ⟨3, by omega, rfl, by rw [hs'], by trivial⟩
        case measure => simp [intOf]
      · have hs' : halfK r 3 = o ^^^ 1994146192 := by rw [hs]; unfold bitStep; rw [if_pos (by simp; omega)]
        have ha : bits .and .u32 ((r : Int) / 4) 1 = 1 := by rw [hb] at ha0; simpa using ha0
        clear ha0
        clear hs hb
        go_wp2
        go_roundw
        case rel => exact ⟨3, by omega, rfl, by rw [hs', ← hx]; rfl, by trivial⟩
        case measure => simp [intOf]
    · have hs := halfK_succ r 3
      generalize halfK r 3 = o at hlt hs ⊢
      have ha0 := and1_u32 (r / 8) (by omega)
      have hx := xor_u32 o 3988292384 hlt (by decide)
      rcases Nat.mod_two_eq_zero_or_one (r / 8) with hb | hb
      · have hs' : halfK r 4 = o := by rw [hs]; unfold bitStep; rw [if_neg (by simp; omega)]
        have ha : bits .and .u32 ((r : Int) / 8) 1 = 0 := by rw [hb] at ha0; simpa using ha0
        clear ha0
        clear hs hb hx
        go_wp2
        go_roundw
        case rel => exact ⟨4, by omega, rfl, by rw [hs'], by trivial⟩
        case measure => simp [intOf]
      · have hs' : halfK r 4 = o ^^^ 3988292384 := by rw [hs]; unfold bitStep; rw [if_pos (by simp; omega)]
        have ha : bits .and .u32 ((r : Int) / 8) 1 = 1 := by rw [hb] at ha0; simpa using ha0
        clear ha0
        clear hs hb
        go_wp2
        go_roundw
        case rel => exact ⟨4, by omega, rfl, by rw [hs', ← hx]; rfl, by trivial⟩
        case measure => simp [intOf]
    · rw [halfK_four]
      go_wp2
      go_ret
      exact ⟨rfl, rfl⟩

theorem Crc_ok {w : World} {v : Value} {l : List UInt8} (hv : Bs w v l) :
    Calls Tryz.prog 117 #[v] w fun e w' => e = .returned (.int .u32 (crcN l)) ∧ w = w' := by
  obtain ⟨a, cap, rfl, h1, h2, hel⟩ := hv.elems
  have hmax : l.length ≤ 9223372036854775807 := by unfold maxLen at h2; omega
  clear hv h1 h2
  have HE := Lib.hid hel
  clear hel
  go_enter Tryz.func117, Tryz.ntmps117
  go_wp2
  go_loopw [3, 8] (fun r k wr => ∃ i : Nat, i ≤ l.length ∧ k = .int .i64 i ∧ r = .int .u32 (crcGo 4294967295 (l.take i)) ∧ w = wr) (fun _ k _ => l.length - (intOf k).toNat)
  case atStart => exact ⟨0, by omega, rfl, rfl, rfl⟩
  case round =>
    obtain ⟨i, hi, rfl, rfl, rfl⟩ := hrel
    have hr := crcGo_lt (l.take i) 4294967295 (by decide)
    by_cases hlt : i < l.length
    · obtain ⟨g, o, rfl, hg, hcell⟩ := HE.out i hlt
      have hn : crcGo 4294967295 (l.take (i + 1)) = halfN (halfN (crcGo 4294967295 (l.take i) ^^^ l[i].toNat)) := by
        unfold crcGo
        rw [List.take_succ_eq_append_getElem hlt, List.foldl_append]; rfl
      have HN := Lib.hid hn
      clear hn
      have hc8 : l[i].toNat < 256 := l[i].toNat_lt
      have hx := xor_u32 (crcGo 4294967295 (l.take i)) l[i].toNat hr (by omega)
      have hxl : crcGo 4294967295 (l.take i) ^^^ l[i].toNat < 4294967296 := Nat.xor_lt_two_pow (n := 32) hr (by omega)
      have hcell' : w.cell? ⟨g, o + i, none⟩ = some (.int .u8 (l[i].toNat : Int)) := hcell
      have hid : ((l[i].toNat : Nat) : Int) % 4294967296 = (l[i].toNat : Int) := by omega
      generalize crcGo 4294967295 (l.take i) ^^^ l[i].toNat = x at hx hxl HN
      generalize crcGo 4294967295 (l.take i) = r at hx hr ⊢
      generalize l[i].toNat = c at hx hcell' hid hc8
      clear hcell
      go_wp2_with fail
      refine (half_ok x hxl w).mono ?_
      rintro e w1 ⟨rfl, rfl⟩
      go_wp2_with fail
      refine (half_ok (halfN x) (halfN_lt hxl) w).mono ?_
      rintro e w1 ⟨rfl, rfl⟩
      go_wp2
      go_roundw
      case rel => exact ⟨i + 1, by omega, by go_num, by rw [HN.out], by trivial⟩
      case measure => simp [intOf]; omega
    · obtain rfl : i = l.length := by omega
      rw [List.take_length] at hr ⊢
      have e : (4294967295 : Int) - (crcGo 4294967295 l : Int) = (crcN l : Int) := by unfold crcN; omega
      go_wp2
      go_ret
      exact ⟨rfl, rfl⟩
end Go.Proofs.YtphgiobklbpdeaaGreatDoor

/-
  Package bytes, walked: the library's Concat of two slices; Int, Seal, Blob.
-/
namespace Go.Proofs.YtphgiobklbpdeaaGreatDoor
open Go Go.RowKit Go.Sort
set_option maxRecDepth 100000
set_option maxHeartbeats 1600000

theorem Concat_ok {w : World} {v a b : Value} {l k : List UInt8} (hs : SrcV 1 w v 2 [a, b]) (ha : Bs w a l) (hb : Bs w b k) (hl : l.length + k.length ≤ 100000000) :
    Calls Tryz.prog 116 #[v] w (NewB w (l ++ k)) := by
  obtain ⟨-, ⟨_, _, h0⟩ | ⟨g, o, cap, rfl, h1, h2, h3, h4⟩⟩ := hs
  · omega
  have c0 := h4 0 (by simp)
  have c1 := h4 1 (by simp)
  simp only [List.getElem_cons_zero, List.getElem_cons_succ, Nat.add_zero] at c0 c1
  obtain ⟨xa, ca, rfl, hla⟩ := ha.len
  obtain ⟨xb, cb, rfl, hlb⟩ := hb.len
  obtain ⟨i0, hi, hz0, hz1, hz2⟩ := info_parts infoU8
  have HI := Lib.hid hi
  have HZ0 := Lib.hid hz0
  have HZ1 := Lib.hid hz1
  have HZ2 := Lib.hid hz2
  have HA := Lib.hid ha
  have HB := Lib.hid hb
  clear hi hz0 hz1 hz2 ha hb h4 h1 h2 hla hlb
  go_enter Tryz.func116, Tryz.ntmps116
  go_wp2
  go_loopw [3, 11] (fun s i wr => ((i = .int .i64 0 ∧ s = .int .i64 0) ∨ (i = .int .i64 1 ∧ s = .int .i64 l.length) ∨ (i = .int .i64 2 ∧ s = .int .i64 ((l.length + k.length : Nat) : Int))) ∧ w = wr) (fun _ i _ => 2 - (intOf i).toNat)
  case atStart => exact ⟨.inl ⟨rfl, rfl⟩, rfl⟩
  case round =>
    obtain ⟨⟨rfl, rfl⟩ | ⟨rfl, rfl⟩ | ⟨rfl, rfl⟩, rfl⟩ := hrel
    · clear c1
      go_wp2
      go_roundw
      case rel => exact ⟨.inr (.inl ⟨rfl, by simp⟩), by trivial⟩
      case measure => simp [intOf]
    · clear c0
      go_wp2
      go_roundw
      case rel => exact ⟨.inr (.inr ⟨rfl, by simp⟩), by trivial⟩
      case measure => simp [intOf]
    · go_wp2_with fail
      refine (Grow_ok w (l.length + k.length) (by omega)).mono ?_
      rintro e w1 ⟨v1, rfl, hv1, hn1, hf1⟩
      have G1 := Lib.hid (And.intro hv1 (And.intro hn1 hf1))
      clear hv1 hn1 hf1
      go_wp2
      go_loopw [6, 27] (fun s i wr => ∃ m : List UInt8, ((i = .int .i64 0 ∧ m = []) ∨ (i = .int .i64 1 ∧ m = l) ∨ (i = .int .i64 2 ∧ m = l ++ k)) ∧ Vec 1 wr s m.length (m.map u8) ∧ Nw w wr ∧ ∀ g, s.ownBlock = some g → w.heap.size ≤ g) (fun _ i _ => 2 - (intOf i).toNat)
      case atStart => exact ⟨[], .inl ⟨rfl, rfl⟩, G1.out.1, G1.out.2.1, G1.out.2.2⟩
      case round =>
        obtain ⟨m, hc, hv, hn, hf⟩ := hrel
        obtain ⟨sm, cm, rfl, -⟩ := hv.len
        have e0 := hn.cell c0
        have e1 := hn.cell c1
        have hg : g < wr.heap.size := Nat.lt_of_lt_of_le h3 hn.size
        have HV := Lib.hid hv
        have HN := Lib.hid hn
        have HF := Lib.hid hf
        clear hv hn hf
        have SA := Lib.hid (SrcV.of_rd (HA.out.nw HN.out))
        have SB := Lib.hid (SrcV.of_rd (HB.out.nw HN.out))
        rcases hc with ⟨rfl, rfl⟩ | ⟨rfl, rfl⟩ | ⟨rfl, rfl⟩
        · clear e1
          go_wp2_with (at_builtin; refine wpList_append_vec rfl _ _ 23 rfl 5 i0 (.int .u8 0) 1 1 Tryz.underlying23 HI.out HZ0.out HZ1.out HZ2.out rfl (by decide) rfl rfl HV.out SA.out ?c1 ?c2 ?c3 ?_)
          case c1 => exact fun u hu => by obtain ⟨y, _, rfl⟩ := List.mem_map.1 hu; exact u8_cell y
          case c2 => simp only [List.length_nil]; unfold maxLen; omega
          case c3 => simp only [List.length_nil]; omega
          intro v' w2 q1 q2 q3
          have Q1 := Lib.hid q1
          have Q2 := Lib.hid q2
          have Q3 := Lib.hid q3
          clear q1 q2 q3
          go_wp2
          go_roundw
          case rel =>
            refine ⟨l, .inr (.inl ⟨rfl, rfl⟩), by simpa using Q1.out, HN.out.trans' Q2.out (fun j hj hb => by have := HF.out j hb; omega), fun j hj => ?_⟩
            rcases Q3.out with h | h
            · exact HF.out j (h ▸ hj)
            · exact Nat.le_trans HN.out.size (h j hj)
          case measure => simp [intOf]
        · clear e0
          go_wp2_with (at_builtin; refine wpList_append_vec rfl _ _ 23 rfl 5 i0 (.int .u8 0) 1 1 Tryz.underlying23 HI.out HZ0.out HZ1.out HZ2.out rfl (by decide) rfl rfl HV.out SB.out ?c1 ?c2 ?c3 ?_)
          case c1 => exact fun u hu => by obtain ⟨y, _, rfl⟩ := List.mem_map.1 hu; exact u8_cell y
          case c2 => unfold maxLen; omega
          case c3 => omega
          intro v' w2 q1 q2 q3
          have Q1 := Lib.hid q1
          have Q2 := Lib.hid q2
          have Q3 := Lib.hid q3
          clear q1 q2 q3
          go_wp2
          go_roundw
          case rel =>
            refine ⟨m ++ k, .inr (.inr ⟨rfl, rfl⟩), by have := Q1.out; rwa [← List.map_append, ← List.length_append] at this, HN.out.trans' Q2.out (fun j hj hb => by have := HF.out j hb; omega), fun j hj => ?_⟩
            rcases Q3.out with h | h
            · exact HF.out j (h ▸ hj)
            · exact Nat.le_trans HN.out.size (h j hj)
          case measure => simp [intOf]
        · go_wp2
          go_ret
          exact ⟨_, rfl, HV.out, HN.out, HF.out⟩

theorem Int_ok {w : World} {v : Value} {l : List UInt8} (hv : Vec 1 w v l.length (l.map u8)) (n : Int) (h0 : -9223372036854775808 ≤ n) (h1 : n ≤ 9223372036854775807) (hl : l.length ≤ 100000000) :
    Calls Tryz.prog 174 #[v, .int .i64 n] w fun e w' => ∃ v', e = .returned v' ∧ Vec 1 w' v' (l ++ intB n).length ((l ++ intB n).map u8) ∧ Only (fun k => v.ownBlock = some k) w w' ∧ (v'.ownBlock = v.ownBlock ∨ ∀ g, v'.ownBlock = some g → w.heap.size ≤ g) := by
  have HV := Lib.hid hv
  obtain ⟨sa, sc, rfl, -⟩ := hv.len
  clear hv
  go_enter Tryz.func174, Tryz.ntmps174
  go_wp2_with fail
  refine (folded_ok n h0 h1 w).mono ?_
  rintro e w1 ⟨rfl, rfl⟩
  go_wp2_with fail
  refine (Uint_ok HV.out (zig n) (zig_lt h0 h1) hl).mono ?_
  rintro e w1 ⟨v', rfl, q1, q2, q3⟩
  have Q := Lib.hid (And.intro q1 (And.intro q2 q3))
  clear q1 q2 q3
  go_wp2
  go_ret
  exact ⟨v', rfl, Q.out⟩

end Go.Proofs.YtphgiobklbpdeaaGreatDoor

/-
  SameTexts, walked.
-/
namespace Go.Proofs.YtphgiobklbpdeaaGreatDoor
open Go Go.RowKit Go.Sort
set_option maxRecDepth 100000
set_option maxHeartbeats 1600000

theorem beq_of_take {l k : List Str} (h : l = k) : (l == k) = true := by simpa using h
theorem nbeq_at {l k : List Str} (i : Nat) (h : l[i]? ≠ k[i]?) : (l == k) = false := by
  rw [Bool.eq_false_iff]; intro e; have : l = k := by simpa using e
  exact h (by rw [this])

theorem SameTexts_ok {w : World} {v u : Value} {l k : List Str} (h : Ss w v l) (h' : Ss w u k) :
    Calls Tryz.prog 42 #[v, u] w fun e w' => e = .returned (.bool (l == k)) ∧ Nw w w' := by
  obtain ⟨la, lc, rfl, hl1, hl2, hle⟩ := h.elems
  obtain ⟨ka, kc, rfl, hk1, hk2, hke⟩ := h'.elems
  unfold maxLen at hl2 hk2
  have HL := Lib.hid hle
  have HK := Lib.hid hke
  clear h h' hle hke
  go_enter Tryz.func42, Tryz.ntmps42
  go_wp2
  go_loopw [5] (fun i wr => ∃ n : Nat, n ≤ l.length ∧ n ≤ k.length ∧ i = .int .i64 n ∧ l.take n = k.take n ∧ Nw w wr) (fun i _ => l.length + k.length - (intOf i).toNat)
  case atStart => exact ⟨0, Nat.zero_le _, Nat.zero_le _, rfl, rfl, Nw.refl _⟩
  case round =>
    obtain ⟨n, hn1, hn2, rfl, ht, hwr⟩ := hrel
    have HT := Lib.hid ht
    have HW := Lib.hid hwr
    clear ht
    by_cases h1 : n < l.length
    · obtain ⟨g, o, rfl, hg, hc⟩ := HL.out n h1
      have hc1 := hwr.cell hc
      by_cases h2 : n < k.length
      · obtain ⟨g2, o2, rfl, hg2, hd⟩ := HK.out n h2
        have hd1 := hwr.cell hd
        by_cases he : l[n] = k[n]
        · have he' : Hid (l.take (n + 1) = k.take (n + 1)) := by
            show l.take (n + 1) = k.take (n + 1)
            rw [List.take_succ_eq_append_getElem h1, List.take_succ_eq_append_getElem h2, HT.out, he]
          have q1 : decide ((l.length : Int) ≤ (n : Int)) = false := by simp; omega
          have q2 : decide ((k.length : Int) ≤ (n : Int)) = false := by simp; omega
          rw [he] at hc1
          clear hc hd hwr he
          go_wp2
          have d1 := cellG hc1
          have d2 := cellG hd1
          refine wp_region_quiet_below (by kernel_rfl) (by kernel_rfl) ?_
          repeat (first | go_big_quiet_step (fail) | quiet_step (fail))
          refine wpQuiet_nil ?_
          intro w2 hw2
          have hw2 := Lib.hid (Nw.of_regrown hw2)
          clear d1 d2 q1 q2 hc1 hd1
          go_wp2
          go_roundw
          case rel => exact ⟨n + 1, by omega, by omega, by go_num, he'.out, HW.out.trans hw2.out⟩
          case measure => simp [intOf]; omega
        · have r : Hid ((l == k) = false) := nbeq_at n (by rw [List.getElem?_eq_getElem h1, List.getElem?_eq_getElem h2]; intro e; exact he (Option.some.inj e))
          have q1 : decide ((l.length : Int) ≤ (n : Int)) = false := by simp; omega
          have q2 : decide ((k.length : Int) ≤ (n : Int)) = false := by simp; omega
          have q3 : (l[n] == k[n]) = false := by simpa using he
          have q4 : (l[n] != k[n]) = true := by simpa using he
          generalize l[n] = ln at *
          generalize k[n] = kn at *
          clear hc hd hwr
          go_wp2
          have d1 := cellG hc1
          have d2 := cellG hd1
          refine wp_region_quiet_below (by kernel_rfl) (by kernel_rfl) ?_
          repeat (first | go_big_quiet_step (fail) | quiet_step (fail))
          refine wpQuiet_nil ?_
          intro w2 hw2
          have hw2 := Lib.hid (Nw.of_regrown hw2)
          clear d1 d2 q1 q2 hc1 hd1
          go_wp2
          go_ret
          exact ⟨by rw [r.out]; rfl, HW.out.trans hw2.out⟩
      · have r : Hid ((l == k) = false) := nbeq_at n (by rw [List.getElem?_eq_getElem h1, List.getElem?_eq_none (by omega)]; simp)
        have q1 : decide ((l.length : Int) ≤ (n : Int)) = false := by simp; omega
        have q2 : decide ((k.length : Int) ≤ (n : Int)) = true := by simp; omega
        clear hc hwr hc1
        go_wp2
        refine wp_region_quiet_below (by kernel_rfl) (by kernel_rfl) ?_
        repeat (first | go_big_quiet_step (fail) | quiet_step (fail))
        refine wpQuiet_nil ?_
        intro w2 hw2
        have hw2 := Lib.hid (Nw.of_regrown hw2)
        clear q1 q2
        go_wp2
        go_ret
        exact ⟨by rw [r.out]; rfl, HW.out.trans hw2.out⟩
    · by_cases h2 : n < k.length
      · have r : Hid ((l == k) = false) := nbeq_at n (by rw [List.getElem?_eq_none (by omega), List.getElem?_eq_getElem h2]; simp)
        have q1 : decide ((l.length : Int) ≤ (n : Int)) = true := by simp; omega
        clear hwr
        go_wp2
        refine wp_region_quiet_below (by kernel_rfl) (by kernel_rfl) ?_
        repeat (first | go_big_quiet_step (fail) | quiet_step (fail))
        refine wpQuiet_nil ?_
        intro w2 hw2
        have hw2 := Lib.hid (Nw.of_regrown hw2)
        clear q1
        go_wp2
        go_ret
        exact ⟨by rw [r.out]; rfl, HW.out.trans hw2.out⟩
      · have r : Hid ((l == k) = true) := beq_of_take (by
          have := HT.out
          rw [List.take_of_length_le (by omega), List.take_of_length_le (by omega)] at this
          exact this)
        clear hwr
        go_wp2
        go_ret
        exact ⟨by rw [r.out]; rfl, HW.out⟩
end Go.Proofs.YtphgiobklbpdeaaGreatDoor

/-
  A disk that a statement has made: the disk's functions, told for it.
-/
namespace Go.Proofs.YtphgiobklbpdeaaGreatDoor
open Go Go.RowKit Go.Sort
set_option maxRecDepth 100000
set_option maxHeartbeats 800000

/-- In w lies the disk d at b, which was made behind w0; of what was there in w0 nothing has turned. -/
def Has (w0 w : World) (b : Nat) (d : Dsk) : Prop := ∃ S, DiskIn w b d S ∧ Nw w0 w ∧ ∀ k, S k → w0.heap.size ≤ k

section
variable {w0 w w' : World} {b : Nat} {d d' : Dsk}
theorem Has.nw (h : Has w0 w b d) (hw : Nw w w') : Has w0 w' b d := by
  obtain ⟨S, h1, h2, h3⟩ := h
  exact ⟨S, h1.nw hw, h2.trans hw, h3⟩
theorem Has.base (h : Has w0 w b d) : Nw w0 w := h.choose_spec.2.1
theorem Has.ok (h : Has w0 w b d) : d.Ok := h.choose_spec.1.ok
theorem Has.turn {S : Nat → Prop} (hD : Nw w0 w) (hS : ∀ k, S k → w0.heap.size ≤ k) (h : DiskTo S w w' b d') : Has w0 w' b d' := by
  obtain ⟨S', h1, h2, h3⟩ := h
  refine ⟨S', h1, hD.trans' h2 (fun k hk hs => ?_), fun k hk => ?_⟩
  · have := hS k hs; omega
  · rcases h3 k hk with h | h
    · exact hS k h
    · have := hD.size; omega

theorem Has.new (most : Int) (w : World) (h0 : 0 ≤ most) (h1 : most ≤ 16777216) : Calls Tryz.prog 52 #[.int .i64 most] w fun e w' => ∃ b, e = .returned (.tuple #[.pointer (some ⟨b, 0, none⟩), .int .i64 0]) ∧ Has w w' b (newDsk most) := by
  refine (New_ok most w h0 h1).mono ?_
  rintro e w' ⟨b, S, he, h2, h3, h4⟩
  exact ⟨b, he, S, h2, h3, h4⟩

/-- Append of bytes that came in. -/
theorem Has.append (h : Has w0 w b d) (n : Str) (l : List UInt8) (src : Value) (hs : Bs w0 src l) (hnl : n.length ≤ 9223372036854775807) (hll : l.length ≤ 140737488355328) {x : Int} (hr : d.append n l = (d', x)) :
    Calls Tryz.prog 40 #[.pointer (some ⟨b, 0, none⟩), .string ⟨n.toArray⟩, src] w fun e w' => e = .returned (.int .i64 x) ∧ Has w0 w' b d' := by
  obtain ⟨S, h1, h2, h3⟩ := h
  have := Append_ok h1 n l src (hs.nw h2) (fun hne g hg hS => by have := hs.lt hne g hg; have := h3 g hS; omega) hnl hll
  rw [hr] at this
  exact this.mono fun e w' ⟨he, ht⟩ => ⟨he, Has.turn h2 h3 ht⟩
/-- Append of bytes that lie in a block that is none of the disk's. -/
theorem Has.append' (h : Has w0 w b d) (n : Str) (l : List UInt8) (o : Obj) (src : Value) (hs : Bs (w.alloc o) src l) (hb : src.ownBlock = none ∨ src.ownBlock = some w.heap.size) (hnl : n.length ≤ 9223372036854775807) (hll : l.length ≤ 140737488355328) {x : Int} (hr : d.append n l = (d', x)) :
    Calls Tryz.prog 40 #[.pointer (some ⟨b, 0, none⟩), .string ⟨n.toArray⟩, src] (w.alloc o) fun e w' => e = .returned (.int .i64 x) ∧ Has w0 w' b d' := by
  obtain ⟨S, h1, h2, h3⟩ := h
  have := Append_ok (h1.nw ((Nw.refl w).alloc o)) n l src hs (fun _ g hg hS => by
    rcases hb with hb | hb
    · rw [hb] at hg; cases hg
    · rw [hb] at hg
      have e : w.heap.size = g := Option.some.inj hg
      have := h1.lt g hS; omega) hnl hll
  rw [hr] at this
  exact this.mono fun e w' ⟨he, ht⟩ => ⟨he, Has.turn (h2.trans ((Nw.refl w).alloc o)) h3 ht⟩
theorem Has.sync (h : Has w0 w b d) (n : Str) {x : Int} (hr : d.sync n = (d', x)) :
    Calls Tryz.prog 102 #[.pointer (some ⟨b, 0, none⟩), .string ⟨n.toArray⟩] w fun e w' => e = .returned (.int .i64 x) ∧ Has w0 w' b d' := by
  obtain ⟨S, h1, h2, h3⟩ := h
  have := Sync_ok h1 n
  rw [hr] at this
  exact this.mono fun e w' ⟨he, ht⟩ => ⟨he, Has.turn h2 h3 ht⟩
theorem Has.remove (h : Has w0 w b d) (n : Str) {x : Int} (hr : d.remove n = (d', x)) :
    Calls Tryz.prog 92 #[.pointer (some ⟨b, 0, none⟩), .string ⟨n.toArray⟩] w fun e w' => e = .returned (.int .i64 x) ∧ Has w0 w' b d' := by
  obtain ⟨S, h1, h2, h3⟩ := h
  have := Remove_ok h1 n
  rw [hr] at this
  exact this.mono fun e w' ⟨he, ht⟩ => ⟨he, Has.turn h2 h3 ht⟩
theorem Has.rename (h : Has w0 w b d) (n t : Str) (htl : t.length ≤ 9223372036854775807) {x : Int} (hr : d.rename n t = (d', x)) :
    Calls Tryz.prog 148 #[.pointer (some ⟨b, 0, none⟩), .string ⟨n.toArray⟩, .string ⟨t.toArray⟩] w fun e w' => e = .returned (.int .i64 x) ∧ Has w0 w' b d' := by
  obtain ⟨S, h1, h2, h3⟩ := h
  have := Rename_ok h1 n t htl
  rw [hr] at this
  exact this.mono fun e w' ⟨he, ht⟩ => ⟨he, Has.turn h2 h3 ht⟩
theorem Has.cut (h : Has w0 w b d) (n : Str) (k : Int) {x : Int} (hr : d.cut n k = (d', x)) :
    Calls Tryz.prog 38 #[.pointer (some ⟨b, 0, none⟩), .string ⟨n.toArray⟩, .int .i64 k] w fun e w' => e = .returned (.int .i64 x) ∧ Has w0 w' b d' := by
  obtain ⟨S, h1, h2, h3⟩ := h
  have := Cut_ok h1 n k
  rw [hr] at this
  exact this.mono fun e w' ⟨he, ht⟩ => ⟨he, Has.turn h2 h3 ht⟩
theorem Has.arm (h : Has w0 w b d) (k : Int) (hk : k ≤ 9223372036854775807) (hr : d.armed k = d') :
    Calls Tryz.prog 53 #[.pointer (some ⟨b, 0, none⟩), .int .i64 k] w fun e w' => e = .returned (.tuple #[]) ∧ Has w0 w' b d' := by
  obtain ⟨S, h1, h2, h3⟩ := h
  have := Arm_ok h1 k hk
  rw [hr] at this
  exact this.mono fun e w' ⟨he, ht⟩ => ⟨he, Has.turn h2 h3 ht⟩
/-- Crash; what is kept came in. -/
theorem Has.crash (h : Has w0 w b d) (v : Value) (ks : List Int) (hs : Rd i64v w0 v ks) (hr : d.crash ks = d') :
    Calls Tryz.prog 43 #[.pointer (some ⟨b, 0, none⟩), v] w fun e w' => e = .returned (.tuple #[]) ∧ Has w0 w' b d' := by
  obtain ⟨S, h1, h2, h3⟩ := h
  have := Crash_ok h1 v ks (hs.nw h2) (fun hne g hg hS => by have := hs.lt hne g hg; have := h3 g hS; omega)
  rw [hr] at this
  exact this.mono fun e w' ⟨he, ht⟩ => ⟨he, Has.turn h2 h3 ht⟩
/-- .. what is kept lies in a new block. -/
theorem Has.crash' (h : Has w0 w b d) (v : Value) (ks : List Int) (o : Obj) (hs : Rd i64v (w.alloc o) v ks) (hb : v.ownBlock = none ∨ v.ownBlock = some w.heap.size) (hr : d.crash ks = d') :
    Calls Tryz.prog 43 #[.pointer (some ⟨b, 0, none⟩), v] (w.alloc o) fun e w' => e = .returned (.tuple #[]) ∧ Has w0 w' b d' := by
  obtain ⟨S, h1, h2, h3⟩ := h
  have := Crash_ok (h1.nw ((Nw.refl w).alloc o)) v ks hs (fun _ g hg hS => by
    rcases hb with hb | hb
    · rw [hb] at hg; cases hg
    · rw [hb] at hg
      have e : w.heap.size = g := Option.some.inj hg
      have := h1.lt g hS; omega)
  rw [hr] at this
  exact this.mono fun e w' ⟨he, ht⟩ => ⟨he, Has.turn (h2.trans ((Nw.refl w).alloc o)) h3 ht⟩

theorem Has.size (h : Has w0 w b d) (n : Str) {k : Nat} (hk : (fileOf d.files n).bytes.length = k) :
    Calls Tryz.prog 35 #[.pointer (some ⟨b, 0, none⟩), .string ⟨n.toArray⟩] w fun e w' => e = .returned (.int .i64 k) ∧ Has w0 w' b d := by
  have h' := h
  obtain ⟨S, h1, h2, h3⟩ := h
  subst hk
  exact (Size_ok h1 n).mono fun e w' ⟨he, hw⟩ => ⟨he, h'.nw hw⟩
theorem Has.synced (h : Has w0 w b d) (n : Str) {k : Nat} (hk : (fileOf d.files n).synced = k) :
    Calls Tryz.prog 57 #[.pointer (some ⟨b, 0, none⟩), .string ⟨n.toArray⟩] w fun e w' => e = .returned (.int .i64 k) ∧ Has w0 w' b d := by
  have h' := h
  obtain ⟨S, h1, h2, h3⟩ := h
  subst hk
  exact (Synced_ok h1 n).mono fun e w' ⟨he, hw⟩ => ⟨he, h'.nw hw⟩
theorem Has.used (h : Has w0 w b d) {k : Nat} (hk : usedF d.files = k) :
    Calls Tryz.prog 50 #[.pointer (some ⟨b, 0, none⟩)] w fun e w' => e = .returned (.int .i64 k) ∧ Has w0 w' b d := by
  have h' := h
  obtain ⟨S, h1, h2, h3⟩ := h
  subst hk
  exact (Used_ok h1).mono fun e w' ⟨he, hw⟩ => ⟨he, h'.nw hw⟩
theorem Has.down (h : Has w0 w b d) {x : Bool} (hx : d.down = x) :
    Calls Tryz.prog 59 #[.pointer (some ⟨b, 0, none⟩)] w fun e w' => e = .returned (.bool x) ∧ Has w0 w' b d := by
  have h' := h
  obtain ⟨S, h1, h2, h3⟩ := h
  subst hx
  exact (Down_ok h1).mono fun e w' ⟨he, hw⟩ => ⟨he, by subst hw; exact h'⟩
theorem Has.read (h : Has w0 w b d) (n : Str) {l : List UInt8} {x : Int} (hr : d.read n = (l, x)) :
    Calls Tryz.prog 29 #[.pointer (some ⟨b, 0, none⟩), .string ⟨n.toArray⟩] w fun e w' => ∃ v, e = .returned (.tuple #[v, .int .i64 x]) ∧ Own w' v l ∧ Has w0 w' b d ∧ ∀ g, v.ownBlock = some g → w.heap.size ≤ g := by
  have h' := h
  obtain ⟨S, h1, h2, h3⟩ := h
  have := Read_ok h1 n
  rw [hr] at this
  exact this.mono fun e w' ⟨v, he, hv, hw, hf⟩ => ⟨v, he, hv, h'.nw hw, hf⟩
theorem Has.list (h : Has w0 w b d) {l : List Str} (hl : d.list = l) :
    Calls Tryz.prog 28 #[.pointer (some ⟨b, 0, none⟩)] w fun e w' => ∃ v, e = .returned v ∧ Ss w' v l ∧ Has w0 w' b d ∧ ∀ g, v.ownBlock = some g → w.heap.size ≤ g := by
  have h' := h
  obtain ⟨S, h1, h2, h3⟩ := h
  have := List_ok h1
  rw [hl] at this
  exact this.mono fun e w' ⟨v, he, hv, hw, hf⟩ => ⟨v, he, hv, h'.nw hw, hf⟩
end

/-- A row that a literal lays. -/
theorem rd_lit {α : Type} {f : α → Value} (w : World) (t : TypeId) (fz : Nat × Nat) (l : List α) (C : Array Value) (c : Nat) (hC : C = (l.map f).toArray) (hc : l.length ≤ c) (hm : c ≤ maxLen) :
    Rd f (w.alloc (.cells C t fz)) (.slice (some ⟨w.heap.size, 0, none⟩) l.length c) l := by
  refine .inr ⟨w.heap.size, 0, c, rfl, hc, hm, by simp, fun i hi => ?_⟩
  have : (w.alloc (.cells C t fz)).heap[w.heap.size]? = some (.cells C t fz) := heap_alloc_new w _
  subst hC
  unfold World.cell?
  rw [show (⟨w.heap.size, 0 + i, none⟩ : Addr).block = w.heap.size from rfl, this]
  simp [hi]
end Go.Proofs.YtphgiobklbpdeaaGreatDoor
