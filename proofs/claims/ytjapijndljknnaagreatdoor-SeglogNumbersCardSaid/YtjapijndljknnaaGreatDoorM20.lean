/-
  Texts merged by a program of this claim's: ReadA.
-/
import Derived.Test.YtjapijndljknnaaGreatDoorM19
import Derived.Test.YtjapijndljknnaaGreatDoorM11
/-
  Package bytes, walked: what reads numbers, strings, sums.
-/
namespace Go.Proofs.YtjapijndljknnaaGreatDoor
open Go Go.RowKit Go.Sort
set_option maxRecDepth 100000
set_option maxHeartbeats 1600000

/-! ### Slices of bytes -/
theorem sizeU8 (W : World) : (sizeOf (Tryz.prog.elem 35)).run Tryz.prog W = .ok 1 W := by kernel_rfl
theorem elemU8 : Tryz.prog.underlying 35 = some (.slice (Tryz.prog.elem 35)) := by kernel_rfl
section
variable {w : World} {a : Option Addr} {n cap : Nat} {l : List UInt8}
theorem bs_cut (h : Bs w (.slice a n cap) l) (i j : Nat) (hij : i ≤ j) (hj : j ≤ n) : ∃ a' c', sliced a i j cap 1 = .slice a' (j - i) c' ∧ Bs w (.slice a' (j - i) c') ((l.drop i).take (j - i)) ∧ j - i ≤ 9223372036854775807 ∧ ((l.drop i).take (j - i)).length = j - i := by
  rcases h with ⟨a0, hv, rfl⟩ | ⟨g, o, c, hv, h1, h2, h3, h4⟩
  · injection hv with e1 e2 e3
    subst e1 e2 e3
    obtain rfl : i = 0 := by omega
    obtain rfl : j = 0 := by omega
    exact ⟨a, 0, by simp [sliced], .inl ⟨_, rfl, by simp⟩, by simp, by simp⟩
  · injection hv with e1 e2 e3
    subst e1 e2 e3
    have hlen : ((l.drop i).take (j - i)).length = j - i := by simp; omega
    unfold maxLen at h2
    by_cases hc : cap = i
    · have hji : j = i := by omega
      subst hji
      refine ⟨some ⟨g, o, none⟩, 0, by simp [sliced, hc], ?_, by omega, hlen⟩
      rw [Nat.sub_self]
      exact .inl ⟨_, rfl, by simp⟩
    · refine ⟨some ⟨g, o + i, none⟩, cap - i, by simp [sliced, hc, addr_add], .inr ⟨g, o + i, cap - i, by rw [hlen], by rw [hlen]; omega, by unfold maxLen; omega, h3, fun k hk => ?_⟩, by omega, hlen⟩
      rw [hlen] at hk
      have := h4 (i + k) (by omega)
      rw [Nat.add_assoc, this]
      simp
/-- b[i:j] -/
theorem bs_lh (h : Bs w (.slice a n cap) l) (i j : Nat) (hij : i ≤ j) (hj : j ≤ n) : ∃ a' c', Bs w (.slice a' (j - i) c') ((l.drop i).take (j - i)) ∧ ((l.drop i).take (j - i)).length = j - i ∧
    (∀ W, (Instr.sliceAt 35 (.slice a n cap) (some (.int .i64 i)) (some (.int .i64 j)) none).run Tryz.prog W = .ok (.slice a' (j - i) c') W) ∧ (∀ W, (Instr.slice 35 (.slice a n cap) (some (.int .i64 i)) (some (.int .i64 j)) none).run Tryz.prog W = .ok (.slice a' (j - i) c') W) := by
  have hcap : n ≤ cap := by
    rcases h with ⟨a0, hv, rfl⟩ | ⟨g, o, c, hv, h1, -⟩
    · injection hv with e1 e2 e3; omega
    · injection hv with e1 e2 e3; omega
  obtain ⟨a', c', e, hb, -, hl⟩ := bs_cut h i j hij hj
  have h2 : ∀ W, (Instr.slice 35 (.slice a n cap) (some (.int .i64 i)) (some (.int .i64 j)) none).run Tryz.prog W = .ok (.slice a' (j - i) c') W := fun W => by
    rw [run_slice_lh W 35 a n cap elemU8 .i64 .i64 i j (by omega) (by omega) (by omega), sizeU8]
    simp only [Result.andThen, Int.toNat_natCast, e]
  exact ⟨a', c', hb, hl, fun W => by rw [run_sliceAt_slice W _ _ _ _ _ elemU8]; exact h2 W, h2⟩
/-- b[i:] -/
theorem bs_l (h : Bs w (.slice a n cap) l) (i : Nat) (hi : i ≤ n) (hn : l.length = n) : ∃ a' c', Bs w (.slice a' (n - i) c') (l.drop i) ∧
    (∀ W, (Instr.sliceAt 35 (.slice a n cap) (some (.int .i64 i)) none none).run Tryz.prog W = .ok (.slice a' (n - i) c') W) ∧ (∀ W, (Instr.slice 35 (.slice a n cap) (some (.int .i64 i)) none none).run Tryz.prog W = .ok (.slice a' (n - i) c') W) := by
  obtain ⟨a', c', e, hb, -, hl⟩ := bs_cut h i n hi (Nat.le_refl _)
  rw [List.take_of_length_le (by simp; omega)] at hb
  have h2 : ∀ W, (Instr.slice 35 (.slice a n cap) (some (.int .i64 i)) none none).run Tryz.prog W = .ok (.slice a' (n - i) c') W := fun W => by
    rw [run_slice_l W 35 a n cap elemU8 .i64 i (by omega) (by omega), sizeU8]
    simp only [Result.andThen, Int.toNat_natCast, e]
  exact ⟨a', c', hb, fun W => by rw [run_sliceAt_slice W _ _ _ _ _ elemU8]; exact h2 W, h2⟩
/-- b[:j] -/
theorem bs_h (h : Bs w (.slice a n cap) l) (j : Nat) (hj : j ≤ n) : ∃ a' c', Bs w (.slice a' j c') (l.take j) ∧ (l.take j).length = j ∧
    (∀ W, (Instr.sliceAt 35 (.slice a n cap) none (some (.int .i64 j)) none).run Tryz.prog W = .ok (.slice a' j c') W) ∧ (∀ W, (Instr.slice 35 (.slice a n cap) none (some (.int .i64 j)) none).run Tryz.prog W = .ok (.slice a' j c') W) := by
  have hcap : n ≤ cap := by
    rcases h with ⟨a0, hv, rfl⟩ | ⟨g, o, c, hv, h1, -⟩
    · injection hv with e1 e2 e3; omega
    · injection hv with e1 e2 e3; omega
  obtain ⟨a', c', e, hb, -, hl⟩ := bs_cut h 0 j (by omega) hj
  simp only [Nat.sub_zero, List.drop_zero] at e hb hl
  have h2 : ∀ W, (Instr.slice 35 (.slice a n cap) none (some (.int .i64 j)) none).run Tryz.prog W = .ok (.slice a' j c') W := fun W => by
    rw [run_slice_h W 35 a n cap elemU8 .i64 j (by omega) (by omega), sizeU8]
    simp only [Result.andThen, Int.toNat_natCast, e]
  exact ⟨a', c', hb, hl, fun W => by rw [run_sliceAt_slice W _ _ _ _ _ elemU8]; exact h2 W, h2⟩
end

/-! ### Bits -/
theorem and127_u8 : ∀ q : Nat, q < 256 → bits .and .u8 (q : Int) 127 = ((q % 128 : Nat) : Int) := by
  have h : ∀ q : Fin 256, bits .and .u8 ((q.val : Nat) : Int) 127 = ((q.val % 128 : Nat) : Int) := by decide +kernel
  exact fun q hq => h ⟨q, hq⟩
theorem and128_u8 : ∀ q : Nat, q < 256 → bits .and .u8 (q : Int) 128 = ((q / 128 * 128 : Nat) : Int) := by
  have h : ∀ q : Fin 256, bits .and .u8 ((q.val : Nat) : Int) 128 = ((q.val / 128 * 128 : Nat) : Int) := by decide +kernel
  exact fun q hq => h ⟨q, hq⟩
theorem and1_u64 (a : Nat) (ha : a < 18446744073709551616) : bits .and .u64 (a : Int) 1 = ((a % 2 : Nat) : Int) := by
  have := bits_mask .u64 64 (by decide) wraps_u64 1 (by decide) (a : Int) (by omega) (by omega)
  rw [show ((2 : Int) ^ 1 - 1) = 1 by decide] at this
  rw [this]; omega
theorem xor_i64_0 (a : Nat) (ha : a < 9223372036854775808) : bits .xor .i64 (a : Int) 0 = (a : Int) := by
  show IntKind.i64.wrap ((BitVec.ofInt 64 (a : Int) ^^^ BitVec.ofInt 64 0).toNat : Int) = _
  have h1 : (BitVec.ofInt 64 (a : Int)).toNat = a := by rw [BitVec.ofInt_natCast, BitVec.toNat_ofNat]; exact Nat.mod_eq_of_lt (by omega)
  have h2 : (BitVec.ofInt 64 0).toNat = 0 := by decide
  rw [BitVec.toNat_xor, h1, h2, Nat.xor_zero]
  exact IntWalk.i64_in _ (by omega)
theorem xor_i64_1 (a : Nat) (ha : a < 9223372036854775808) : bits .xor .i64 (a : Int) (-1) = -(a : Int) - 1 := by
  show IntKind.i64.wrap ((BitVec.ofInt 64 (a : Int) ^^^ BitVec.ofInt 64 (-1)).toNat : Int) = _
  have h1 : (BitVec.ofInt 64 (a : Int)).toNat = a := by rw [BitVec.ofInt_natCast, BitVec.toNat_ofNat]; exact Nat.mod_eq_of_lt (by omega)
  have h2 : (BitVec.ofInt 64 (-1)).toNat = 2 ^ 64 - 1 := by decide
  have h3 : a ^^^ (2 ^ 64 - 1) = 2 ^ 64 - 1 - a := by
    rw [Nat.xor_comm]; exact Lib.xor_ones64 a (by omega)
  rw [BitVec.toNat_xor, h1, h2, h3, IntKind.wrap_i64]
  omega
theorem opened_ok (n : Nat) (h : n < 18446744073709551616) (w : World) :
    Calls Tryz.prog 210 #[.int .u64 n] w fun e w' => e = .returned (.int .i64 (zag n)) ∧ w = w' := by
  have ha0 := and1_u64 n h
  have hd : (n : Int) / 2 = ((n / 2 : Nat) : Int) := by omega
  rcases Nat.mod_two_eq_zero_or_one n with hb | hb
  · have hx := xor_i64_0 (n / 2) (by omega)
    have hz : zag n = ((n / 2 : Nat) : Int) := by unfold zag; rw [if_pos hb]
    have ha : bits .and .u64 (n : Int) 1 = 0 := by rw [hb] at ha0; simpa using ha0
    rw [← hd] at hx hz
    have HZ := Lib.hid hz
    clear ha0 hb hz hd
    go_enter Tryz.func210, Tryz.ntmps210
    go_wp2
    go_ret
    exact ⟨ret1 (by rw [HZ.out]), rfl⟩
  · have hx := xor_i64_1 (n / 2) (by omega)
    have hz : zag n = -((n / 2 : Nat) : Int) - 1 := by unfold zag; rw [if_neg (by omega)]
    have ha : bits .and .u64 (n : Int) 1 = 1 := by rw [hb] at ha0; simpa using ha0
    rw [← hd] at hx hz
    have HZ := Lib.hid hz
    clear ha0 hb hz hd
    go_enter Tryz.func210, Tryz.ntmps210
    go_wp2
    go_ret
    exact ⟨ret1 (by rw [HZ.out]), rfl⟩

/-! ### Numbers -/
theorem number_ok {w : World} {v : Value} {l : List UInt8} (hv : Bs w v l) :
    Calls Tryz.prog 113 #[v] w fun e w' => e = .returned (.tuple #[.int .u64 (numF 0 0 l).1, .int .i64 (numF 0 0 l).2]) ∧ w = w' := by
  obtain ⟨a, cap, rfl, h1, h2, hel⟩ := hv.elems
  have hmax : l.length ≤ 9223372036854775807 := by unfold maxLen at h2; omega
  clear hv h1 h2
  have HE := Lib.hid hel
  clear hel
  obtain ⟨N, hNN⟩ : ∃ N, numF 0 0 l = N := ⟨_, rfl⟩
  rw [hNN]
  go_enter Tryz.func113, Tryz.ntmps113
  go_wp2
  go_loopw [4, 9] (fun n k wr => ∃ i acc : Nat, i ≤ 9 ∧ i ≤ l.length ∧ k = .int .i64 i ∧ n = .int .u64 acc ∧ acc < 2 ^ (7 * i) ∧ numF i acc (l.drop i) = N ∧ w = wr) (fun _ k _ => l.length - (intOf k).toNat)
  case atStart => exact ⟨0, 0, by omega, by omega, rfl, rfl, by simp, hNN, rfl⟩
  case round =>
    obtain ⟨i, acc, hi9, hi, rfl, rfl, hacc, hN, rfl⟩ := hrel
    clear hNN
    by_cases hlt : i < l.length
    · obtain ⟨g, o, rfl, hg, hcell⟩ := HE.out i hlt
      have hc8 : l[i].toNat < 256 := l[i].toNat_lt
      have hcell' : w.cell? ⟨g, o + i, none⟩ = some (.int .u8 (l[i].toNat : Int)) := hcell
      rw [List.drop_eq_getElem_cons hlt] at hN
      conv at hN => lhs; unfold numF
      generalize l[i].toNat = c at hcell' hc8 hN
      have ha := and127_u8 c hc8
      have hb := and128_u8 c hc8
      have hp := pow_pos7 i
      have hi63 : (2 : Nat) ^ (7 * i) ≤ 2 ^ 63 := Nat.pow_le_pow_right (by omega) (by omega)
      have HN := Lib.hid hN
      have HA := Lib.hid hacc
      clear hcell hN hacc
      have ht7 : acc + c % 128 * 2 ^ (7 * i) < 2 ^ (7 * (i + 1)) := by
        have hm : c % 128 * 2 ^ (7 * i) ≤ 127 * 2 ^ (7 * i) := Nat.mul_le_mul_right _ (by omega)
        have := HA.out
        rw [pow7]; omega
      have h8 : i < 9 → acc + c % 128 * 2 ^ (7 * i) < 2 ^ 63 := fun h => by
        have h56 : (2 : Nat) ^ (7 * i) ≤ 2 ^ 56 := Nat.pow_le_pow_right (by omega) (by omega)
        have hm : c % 128 * 2 ^ (7 * i) ≤ 127 * 2 ^ (7 * i) := Nat.mul_le_mul_right _ (by omega)
        have := HA.out
        omega
      by_cases h9 : i = 9 ∧ 1 < c
      · obtain ⟨rfl, h1⟩ := h9
        have r := HN.out
        rw [if_pos ⟨rfl, h1⟩] at r
        have R := Lib.hid r
        have hc1 : decide ((1 : Int) < (c : Int)) = true := by simp; omega
        clear r HN h8 hp hi63 ht7
        go_wp2
        have r := R.out
        refine bodyPost_ret (v := .tuple #[.int .u64 0, .int .i64 (-1)]) (by simp [results, Tryz.results113, go_sem]) rfl ⟨by rw [← r]; rfl, rfl⟩
      · have hbig : acc + c % 128 * 2 ^ (7 * i) < 18446744073709551616 := by
          rcases Nat.lt_or_ge i 9 with h | h
          · have := h8 h; omega
          · obtain rfl : i = 9 := by omega
            have hc1 : c ≤ 1 := by
              rcases Nat.lt_or_ge 1 c with h | h
              · exact absurd ⟨rfl, h⟩ h9
              · exact h
            have hm : c % 128 * 2 ^ (7 * 9) ≤ 1 * 2 ^ (7 * 9) := Nat.mul_le_mul_right _ (by omega)
            have := HA.out
            have e2 : (2 : Nat) ^ (7 * 9) + 2 ^ (7 * 9) = 18446744073709551616 := by decide
            omega
        have hx0 : (c : Int) % 128 * 2 ^ (7 * i) = ((c % 128 * 2 ^ (7 * i) : Nat) : Int) := by push_cast; rfl
        have hw1 : IntKind.u64.wrap ((c : Int) % 128 * 2 ^ (7 * i)) = ((c % 128 * 2 ^ (7 * i) : Nat) : Int) := by rw [hx0]; exact IntWalk.u64_in _ (by omega)
        have r := HN.out
        rw [if_neg h9] at r
        have hacc64 : acc < 18446744073709551616 := by have := HA.out; omega
        have ht0 : c = 0 → c % 128 * 2 ^ (7 * i) = 0 := fun e => by rw [e]; simp
        generalize c % 128 * 2 ^ (7 * i) = t at *
        have hw2 : IntKind.u64.wrap ((acc : Int) + (t : Int)) = ((acc + t : Nat) : Int) := by rw [← Int.natCast_add]; exact IntWalk.u64_in _ (by omega)
        have H8 := Lib.hid ht7
        clear h8 ht7 hx0 HN hp hi63 hbig
        by_cases hh : 128 ≤ c
        · rw [if_pos hh] at r
          have hi9' : i ≠ 9 := fun e => h9 ⟨e, by omega⟩
          have q1 : ((i : Int) == 9) = false := by simpa using (by omega : ¬ (i : Int) = 9)
          have q2 : ((c : Int) / 128 * 128 != 0) = true := by simp; omega
          have R := Lib.hid r
          clear r
          go_wp2
          go_roundw
          case rel => exact ⟨i + 1, acc + t, by omega, by omega, by go_num, by go_num, H8.out, R.out, by trivial⟩
          case measure => simp [intOf]; omega
        · rw [if_neg hh] at r
          have q2 : ((c : Int) / 128 * 128 != 0) = false := by simp; omega
          have hq9 : i = 9 → c ≤ 1 := fun e => by
            rcases Nat.lt_or_ge 1 c with h | h
            · exact absurd ⟨e, h⟩ h9
            · exact h
          by_cases hz : c = 0 ∧ 0 < i
          · obtain ⟨rfl, h0⟩ := hz
            rw [if_pos ⟨rfl, h0⟩] at r
            have R := Lib.hid r
            clear r
            by_cases h9' : i = 9
            · subst h9'
              go_wp2
              have r := R.out
              refine bodyPost_ret (v := .tuple #[.int .u64 0, .int .i64 (-1)]) (by simp [results, Tryz.results113, go_sem]) rfl ⟨by rw [← r]; rfl, rfl⟩
            · have q1 : ((i : Int) == 9) = false := by simpa using (by omega : ¬ (i : Int) = 9)
              have q3 : decide ((0 : Int) < (i : Int)) = true := by simp; omega
              go_wp2
              have r := R.out
              refine bodyPost_ret (v := .tuple #[.int .u64 0, .int .i64 (-1)]) (by simp [results, Tryz.results113, go_sem]) rfl ⟨by rw [← r]; rfl, rfl⟩
          · rw [if_neg hz] at r
            have R := Lib.hid r
            clear r
            have hfin : (i : Int) + 1 ≤ 10 := by omega
            by_cases h9' : i = 9
            · have hc1 := hq9 h9'
              have qa : decide ((1 : Int) < (c : Int)) = false := by simp; omega
              have qb : ((c : Int) == 0) = false := by simp; omega
              have qn : ¬ c = 0 := by omega
              have q1 : ((i : Int) == 9) = true := by simp; omega
              have H9 := Lib.hid h9'
              clear h9' hq9 hc1
              go_wp2
              have r := R.out
              refine bodyPost_ret (v := .tuple #[.int .u64 ((acc + t : Nat) : Int), .int .i64 ((i : Int) + 1)]) (by simp [results, Tryz.results113, go_sem]) rfl ⟨by rw [← r], rfl⟩
            · have q1 : ((i : Int) == 9) = false := by simpa using (by omega : ¬ (i : Int) = 9)
              by_cases hc0 : c = 0
              · obtain rfl : t = 0 := ht0 hc0
                have hacc0 : IntKind.u64.wrap ((acc : Int)) = acc := IntWalk.u64_in _ (by omega)
                have hi0 : ¬ 0 < i := fun h => hz ⟨hc0, h⟩
                have hb0 : bits .and .u8 0 127 = 0 := by decide
                have hb1 : bits .and .u8 0 128 = 0 := by decide
                subst hc0
                have q4 : decide ((0 : Int) < (i : Int)) = false := by simp; omega
                go_wp2
                have r := R.out
                refine bodyPost_ret (v := .tuple #[.int .u64 ((acc + 0 : Nat) : Int), .int .i64 ((i : Int) + 1)]) (by simp [results, Tryz.results113, go_sem]) rfl ⟨by rw [← r], rfl⟩
              · have q3 : ((c : Int) == 0) = false := by simpa using (by omega : ¬ (c : Int) = 0)
                go_wp2
                have r := R.out
                refine bodyPost_ret (v := .tuple #[.int .u64 ((acc + t : Nat) : Int), .int .i64 ((i : Int) + 1)]) (by simp [results, Tryz.results113, go_sem]) rfl ⟨by rw [← r], rfl⟩
    · obtain rfl : i = l.length := by omega
      have HN : Hid (N = (0, 0)) := Lib.hid (by rw [← hN]; simp [numF])
      clear hN hacc
      rw [HN.out]
      go_wp2
      refine bodyPost_ret (v := .tuple #[.int .u64 0, .int .i64 0]) (by simp [results, Tryz.results113, go_sem]) rfl ⟨by rw [HN.out]; rfl, rfl⟩

def u3 (r : Nat × Int × Int) : Value := .tuple #[.int .u64 r.1, .int .i64 r.2.1, .int .i64 r.2.2]
def i3 (r : Int × Int × Int) : Value := .tuple #[.int .i64 r.1, .int .i64 r.2.1, .int .i64 r.2.2]
theorem GetUint_ok {w : World} {v : Value} {l : List UInt8} (hv : Bs w v l) (at_ : Int) (_ha : in64 at_) {n : Nat} {x e : Int} (hr : getU l at_ = (n, x, e)) :
    Calls Tryz.prog 61 #[v, .int .i64 at_] w fun y w' => y = .returned (.tuple #[.int .u64 n, .int .i64 x, .int .i64 e]) ∧ w = w' := by
  obtain ⟨a, cap, rfl, h1, h2, -⟩ := hv.elems
  have hmax : l.length ≤ 9223372036854775807 := by unfold maxLen at h2; omega
  have HV := Lib.hid hv
  have HR := Lib.hid hr
  clear h1 h2 hv hr
  by_cases c0 : at_ < 0
  · have r := HR.out
    unfold getU at r
    rw [if_pos (.inl c0)] at r
    cases r
    clear HV HR
    go_enter Tryz.func61, Tryz.ntmps61
    go_wp2
    refine bodyPost_ret (v := .tuple #[.int .u64 0, .int .i64 0, .int .i64 2]) (by simp [results, Tryz.results61, go_sem]) rfl ⟨rfl, rfl⟩
  by_cases c1 : (l.length : Int) < at_
  · have r := HR.out
    unfold getU at r
    rw [if_pos (.inr c1)] at r
    cases r
    clear HV HR
    go_enter Tryz.func61, Tryz.ntmps61
    go_wp2
    refine bodyPost_ret (v := .tuple #[.int .u64 0, .int .i64 0, .int .i64 2]) (by simp [results, Tryz.results61, go_sem]) rfl ⟨rfl, rfl⟩
  obtain ⟨k, rfl⟩ : ∃ k : Nat, at_ = k := ⟨at_.toNat, by omega⟩
  have hk : k ≤ l.length := by omega
  obtain ⟨a', c', hb, s1, s2⟩ := bs_l HV.out k hk rfl
  have HN := number_ok hb
  have hbd := numF_bound (l.drop k) 0 0 (by omega) (by simp)
  have r := HR.out
  unfold getU at r
  rw [if_neg (by omega), Int.toNat_natCast] at r
  obtain ⟨⟨n0, m0⟩, hnm⟩ : ∃ y, numF 0 0 (l.drop k) = y := ⟨_, rfl⟩
  rw [hnm] at HN hbd r
  simp only [List.length_drop] at HN hbd r
  have HN := Lib.hid HN
  have hm1 : m0 ≤ ((l.length - k : Nat) : Int) := by omega
  have hbd := hbd.1
  clear hb hnm HV HR
  by_cases m1 : m0 = 0
  · subst m1
    rw [if_pos rfl] at r
    cases r
    go_enter Tryz.func61, Tryz.ntmps61
    go_wp2_with fail
    refine HN.out.mono ?_
    rintro e w' ⟨rfl, rfl⟩
    go_wp2
    refine bodyPost_ret (v := .tuple #[.int .u64 0, .int .i64 0, .int .i64 11]) (by simp [results, Tryz.results61, go_sem]) rfl ⟨rfl, rfl⟩
  by_cases m2 : m0 < 0
  · rw [if_neg m1, if_pos m2] at r
    cases r
    have q1 : (m0 == 0) = false := by simpa using m1
    go_enter Tryz.func61, Tryz.ntmps61
    go_wp2_with fail
    refine HN.out.mono ?_
    rintro e w' ⟨rfl, rfl⟩
    go_wp2
    refine bodyPost_ret (v := .tuple #[.int .u64 0, .int .i64 0, .int .i64 10]) (by simp [results, Tryz.results61, go_sem]) rfl ⟨rfl, rfl⟩
  · rw [if_neg m1, if_neg m2] at r
    cases r
    have q1 : (m0 == 0) = false := by simpa using m1
    have q2 : decide (m0 < 0) = false := by simpa using m2
    have hw : IntKind.i64.wrap ((k : Int) + m0) = (k : Int) + m0 := IntWalk.i64_in _ (by omega)
    go_enter Tryz.func61, Tryz.ntmps61
    go_wp2_with fail
    refine HN.out.mono ?_
    rintro e w' ⟨rfl, rfl⟩
    go_wp2
    refine bodyPost_ret (v := .tuple #[.int .u64 n, .int .i64 ((k : Int) + m0), .int .i64 0]) (by simp [results, Tryz.results61, go_sem]) rfl ⟨rfl, rfl⟩
theorem GetInt_ok {w : World} {v : Value} {l : List UInt8} (hv : Bs w v l) (at_ : Int) (ha : in64 at_) {n x e : Int} (hr : getI l at_ = (n, x, e)) :
    Calls Tryz.prog 202 #[v, .int .i64 at_] w fun y w' => y = .returned (.tuple #[.int .i64 n, .int .i64 x, .int .i64 e]) ∧ w = w' := by
  obtain ⟨a, cap, rfl, h1, h2, -⟩ := hv.elems
  obtain ⟨⟨n0, x0, e0⟩, hu⟩ : ∃ y, getU l at_ = y := ⟨_, rfl⟩
  have HU := Lib.hid (GetUint_ok hv at_ ha hu)
  have hf := getU_fine (b := l) (at_ := at_)
  unfold getI at hr
  rw [hu] at hf hr
  simp only at hf hr
  clear hv h1 h2 hu ha
  by_cases c0 : e0 = 0
  · subst c0
    rw [if_pos rfl] at hr
    cases hr
    have hn := (hf rfl).2.2.2
    clear hf
    have HO := Lib.hid (opened_ok n0 (by omega) w)
    go_enter Tryz.func202, Tryz.ntmps202
    go_wp2_with fail
    refine HU.out.mono ?_
    rintro e w' ⟨rfl, rfl⟩
    go_wp2_with fail
    refine HO.out.mono ?_
    rintro e w' ⟨rfl, rfl⟩
    go_wp2
    refine bodyPost_ret (v := .tuple #[.int .i64 (zag n0), .int .i64 x, .int .i64 0]) (by simp [results, Tryz.results202, go_sem]) rfl ⟨rfl, rfl⟩
  · rw [if_neg c0] at hr
    cases hr
    clear hf
    have q1 : (e != 0) = true := by simpa using c0
    go_enter Tryz.func202, Tryz.ntmps202
    go_wp2_with fail
    refine HU.out.mono ?_
    rintro e w' ⟨rfl, rfl⟩
    go_wp2
    refine bodyPost_ret (v := .tuple #[.int .i64 0, .int .i64 0, .int .i64 e]) (by simp [results, Tryz.results202, go_sem]) rfl ⟨rfl, rfl⟩

/-! ### Strings, sums -/
theorem Equal_ok {w : World} {v u : Value} {l k : List UInt8} (h : Bs w v l) (h' : Bs w u k) :
    Calls Tryz.prog 111 #[v, u] w fun e w' => e = .returned (.bool (decide (l = k))) ∧ Nw w w' := by
  obtain ⟨a, cap, rfl, h1, h2, he⟩ := h.elems
  obtain ⟨a', cap', rfl, h1', h2', he'⟩ := h'.elems
  have hmax : l.length ≤ 9223372036854775807 := by unfold maxLen at h2; omega
  have HE := Lib.hid he
  have HE' := Lib.hid he'
  clear h h' h1 h2 h1' h2' he he'
  by_cases hl : l.length = k.length
  case neg =>
    have hb : ((l.length : Int) != (k.length : Int)) = true := by simpa using (by omega : ¬ (l.length : Int) = k.length)
    have R : Hid (decide (l = k) = false) := Lib.hid (by simpa using fun e => hl (by rw [e]))
    go_enter Tryz.func111, Tryz.ntmps111
    go_wp2
    go_ret
    exact ⟨by rw [R.out]; rfl, Nw.refl _⟩
  obtain ⟨n, hn⟩ : ∃ n, l.length = n := ⟨_, rfl⟩
  have HN := Lib.hid hn
  have HK : Hid (k.length = n) := Lib.hid (by rw [← hl, hn])
  rw [← hl, hn]
  rw [hn] at hmax
  clear hn hl
  go_enter Tryz.func111, Tryz.ntmps111
  go_wp2
  go_loopw [13] (fun i wr => ∃ j : Nat, j ≤ n ∧ i = .int .i64 j ∧ l.take j = k.take j ∧ Nw w wr) (fun i _ => n - (intOf i).toNat)
  case atStart => exact ⟨0, Nat.zero_le _, rfl, by simp, Nw.refl _⟩
  case round =>
    obtain ⟨j, hj, rfl, ht, hwr⟩ := hrel
    have HT := Lib.hid ht
    have HW := Lib.hid hwr
    clear ht hwr
    by_cases hlt : j < n
    · have hjl : j < l.length := by rw [HN.out]; exact hlt
      have hjk : j < k.length := by rw [HK.out]; exact hlt
      obtain ⟨g, o, rfl, hg, hc⟩ := HE.out j hjl
      obtain ⟨g', o', rfl, hg', hc'⟩ := HE'.out j hjk
      have hc := HW.out.cell hc
      have hc' := HW.out.cell hc'
      have hg := Nat.lt_of_lt_of_le hg HW.out.size
      have hg' := Nat.lt_of_lt_of_le hg' HW.out.size
      have hs : l.take (j + 1) = l.take j ++ [l[j]] := List.take_succ_eq_append_getElem hjl
      have hs' : k.take (j + 1) = k.take j ++ [k[j]] := List.take_succ_eq_append_getElem hjk
      have HSS := Lib.hid (And.intro hs hs')
      have HGE : Hid (l = k → (l[j] : UInt8) = k[j]) := Lib.hid (fun e => by subst e; rfl)
      clear hs hs'
      generalize (l[j] : UInt8) = x at hc HSS HGE
      generalize (k[j] : UInt8) = y at hc' HSS HGE
      have hc : wr.cell? ⟨g, o + j, none⟩ = some (.int .u8 (x.toNat : Int)) := hc
      have hc' : wr.cell? ⟨g', o' + j, none⟩ = some (.int .u8 (y.toNat : Int)) := hc'
      have g1 := cellG hc
      have g2 := cellG hc'
      go_upto_region 6 with fail
      refine wp_region_quiet_below (by kernel_rfl) (by kernel_rfl) ?_
      repeat (first | go_big_quiet_step (fail) | quiet_step (fail))
      refine wpQuiet_nil ?_
      intro w6 hw6
      have N6 := Lib.hid (HW.out.trans (Nw.of_regrown hw6))
      clear hw6 g1 g2
      by_cases hxy : x = y
      · subst hxy
        have hb : ((x.toNat : Int) != (x.toNat : Int)) = false := by simp
        go_wp2
        go_roundw
        case rel => exact ⟨j + 1, by omega, by go_num, by rw [HSS.out.1, HSS.out.2, HT.out], N6.out⟩
        case measure => simp [intOf]; omega
      · have hb : ((x.toNat : Int) != (y.toNat : Int)) = true := by
          have : ¬ x.toNat = y.toNat := fun e => hxy (UInt8.toNat_inj.1 e)
          simpa using (by omega : ¬ (x.toNat : Int) = y.toNat)
        have R : Hid (decide (l = k) = false) := Lib.hid (by simpa using fun e => hxy (HGE.out e))
        go_wp2
        go_ret
        exact ⟨by rw [R.out]; rfl, N6.out⟩
    · obtain rfl : j = n := by omega
      have R : Hid (decide (l = k) = true) := Lib.hid (by
        have := HT.out
        rw [List.take_of_length_le (by rw [HN.out]; exact Nat.le_refl _), List.take_of_length_le (by rw [HK.out]; exact Nat.le_refl _)] at this
        simpa using this)
      go_wp2
      go_ret
      exact ⟨by rw [R.out]; rfl, HW.out⟩

theorem Unseal_ok {w : World} {v : Value} {l : List UInt8} (hv : Bs w v l) (hl : l.length ≤ 90000000) {r : List UInt8} {e : Int} (hr : unsealB l = (r, e)) :
    Calls Tryz.prog 59 #[v] w fun y w' => ∃ v', y = .returned (.tuple #[v', .int .i64 e]) ∧ Bs w' v' r ∧ Nw w w' := by
  obtain ⟨a, cap, rfl, h1, h2, -⟩ := hv.elems
  have HV := Lib.hid hv
  obtain ⟨n, hn⟩ : ∃ n, l.length = n := ⟨_, rfl⟩
  have HN := Lib.hid hn
  unfold unsealB at hr
  rw [hn] at hr hl HV ⊢
  clear h1 h2 hv
  by_cases h4 : n < 4
  · rw [if_pos h4] at hr
    cases hr
    clear HV
    go_enter Tryz.func59, Tryz.ntmps59
    go_wp2
    refine bodyPost_ret (v := .tuple #[.slice none 0 0, .int .i64 11]) (by simp [results, Tryz.results59, go_sem]) rfl ⟨_, rfl, .inl ⟨none, rfl, rfl⟩, Nw.refl _⟩
  rw [if_neg h4] at hr
  obtain ⟨m, rfl⟩ : ∃ m, n = m + 4 := ⟨n - 4, by omega⟩
  simp only [Nat.add_sub_cancel] at hr
  obtain ⟨a', c', hb, hlen, s1, s2⟩ := bs_h HV.out m (by omega)
  have hsub : ((m + 4 : Nat) : Int) - 4 = (m : Int) := by omega
  have HB := Lib.hid hb
  have hlb : (l.take m).length = m := hlen
  have HS := Lib.hid (Seal_ok hb (by omega))
  have HC := Lib.hid (fun (w' : World) (hw : Nw w w') => Clone_ok (hb.nw hw) (by omega))
  have HR := Lib.hid hr
  have HL2 : Hid ((sealB sumB (l.take m)).length = m + 4) := Lib.hid (by simp [sealB, sumB_len, hlb])
  clear hb hlen hn hr hlb
  generalize l.take m = x at *
  generalize sealB sumB x = sx at *
  go_enter Tryz.func59, Tryz.ntmps59
  go_wp2_with fail
  refine HS.out.mono ?_
  rintro e w1 ⟨v1, rfl, q1, q2, -⟩
  obtain ⟨xa, xc, rfl, -⟩ := q1.len
  have Q1 := Lib.hid q1.rd
  have N1 := Lib.hid q2
  clear q1 q2
  go_wp2_with fail
  refine (Equal_ok Q1.out (HV.out.nw N1.out)).mono ?_
  rintro e w2 ⟨rfl, n2⟩
  have N2 := Lib.hid (N1.out.trans n2)
  have r := HR.out
  clear n2
  by_cases hq : sx = l
  · have hd : decide (sx = l) = true := by simpa using hq
    rw [if_pos hq] at r
    cases r
    go_wp2_with fail
    refine (HC.out w2 N2.out).mono ?_
    rintro e w3 ⟨v3, rfl, q1, q2, -⟩
    have Q3 := Lib.hid q1.rd
    have N3 := Lib.hid (N2.out.trans q2)
    clear q1 q2
    go_wp2
    refine bodyPost_ret (v := .tuple #[v3, .int .i64 0]) (by simp [results, Tryz.results59, go_sem]) rfl ⟨_, rfl, Q3.out, N3.out⟩
  · have hd : decide (sx = l) = false := by simpa using hq
    rw [if_neg hq] at r
    cases r
    go_wp2
    refine bodyPost_ret (v := .tuple #[.slice none 0 0, .int .i64 12]) (by simp [results, Tryz.results59, go_sem]) rfl ⟨_, rfl, .inl ⟨none, rfl, rfl⟩, N2.out⟩

theorem GetBlob_ok {w : World} {v : Value} {l : List UInt8} (hv : Bs w v l) (hl : l.length ≤ 100000000) (at_ most : Int) (ha : in64 at_) (hm : 0 ≤ most ∧ most ≤ 1000000) {r : List UInt8} {x e : Int} (hr : getB l at_ most = (r, x, e)) :
    Calls Tryz.prog 114 #[v, .int .i64 at_, .int .i64 most] w fun y w' => ∃ v', y = .returned (.tuple #[v', .int .i64 x, .int .i64 e]) ∧ Bs w' v' r ∧ Nw w w' := by
  obtain ⟨a, cap, rfl, h1, h2, -⟩ := hv.elems
  obtain ⟨⟨n0, x0, e0⟩, hu⟩ : ∃ y, getU l at_ = y := ⟨_, rfl⟩
  have HU := Lib.hid (GetUint_ok hv at_ ha hu)
  have hf := getU_fine (b := l) (at_ := at_)
  unfold getB at hr
  rw [hu] at hf hr
  simp only at hf hr
  have HV := Lib.hid hv
  have hm0 := hm.1
  have hm1 := hm.2
  clear hv h1 h2 hu ha hm
  by_cases c0 : e0 = 0
  case neg =>
    rw [if_pos c0] at hr
    cases hr
    clear hf HV
    have q1 : (e != 0) = true := by simpa using c0
    go_enter Tryz.func114, Tryz.ntmps114
    go_wp2_with fail
    refine HU.out.mono ?_
    rintro e w' ⟨rfl, rfl⟩
    go_wp2
    refine bodyPost_ret (v := .tuple #[.slice none 0 0, .int .i64 0, .int .i64 e]) (by simp [results, Tryz.results114, go_sem]) rfl ⟨_, rfl, .inl ⟨none, rfl, rfl⟩, Nw.refl _⟩
  subst c0
  rw [if_neg (by simp)] at hr
  obtain ⟨-, f1, f2, f3⟩ := hf rfl
  have q1 : ((0 : Int) != 0) = false := rfl
  have qm : decide (most < 0) = false := by simpa using hm0
  have hmc : most % 18446744073709551616 = most := by omega
  by_cases c1 : most < (n0 : Int)
  · rw [if_pos c1] at hr
    cases hr
    have q2 : decide (most < (n0 : Int)) = true := by simpa using c1
    clear HV
    go_enter Tryz.func114, Tryz.ntmps114
    go_wp2_with fail
    refine HU.out.mono ?_
    rintro e w' ⟨rfl, rfl⟩
    go_wp2
    refine bodyPost_ret (v := .tuple #[.slice none 0 0, .int .i64 0, .int .i64 3]) (by simp [results, Tryz.results114, go_sem]) rfl ⟨_, rfl, .inl ⟨none, rfl, rfl⟩, Nw.refl _⟩
  rw [if_neg c1] at hr
  have q2 : decide (most < (n0 : Int)) = false := by simpa using c1
  obtain ⟨k, rfl⟩ : ∃ k : Nat, x0 = k := ⟨x0.toNat, by omega⟩
  have hk : k ≤ l.length := by omega
  obtain ⟨a1, c1', hb1, s1, s2⟩ := bs_l HV.out k hk rfl
  have hlc : (((l.length - k : Nat) : Int)) % 18446744073709551616 = ((l.length - k : Nat) : Int) := by omega
  by_cases c2 : (l.length : Int) < (k : Int) + (n0 : Int)
  · rw [if_pos c2] at hr
    cases hr
    have q3 : decide (((l.length - k : Nat) : Int) < (n0 : Int)) = true := by simp; omega
    clear HV hb1
    go_enter Tryz.func114, Tryz.ntmps114
    go_wp2_with fail
    refine HU.out.mono ?_
    rintro e w' ⟨rfl, rfl⟩
    go_wp2
    refine bodyPost_ret (v := .tuple #[.slice none 0 0, .int .i64 0, .int .i64 11]) (by simp [results, Tryz.results114, go_sem]) rfl ⟨_, rfl, .inl ⟨none, rfl, rfl⟩, Nw.refl _⟩
  rw [if_neg c2] at hr
  have q3 : decide (((l.length - k : Nat) : Int) < (n0 : Int)) = false := by simp; omega
  obtain ⟨a2, c2', hb2, hl2, t1, t2⟩ := bs_lh HV.out k (k + n0) (by omega) (by omega)
  have hsub : k + n0 - k = n0 := by omega
  rw [hsub] at hb2 hl2 t1 t2
  have HC := Lib.hid (Clone_ok hb2 (by omega))
  have hr1 : (l.drop k).take n0 = r ∧ (k : Int) + n0 = x ∧ 0 = e := by simpa using hr
  obtain ⟨rfl, rfl, rfl⟩ := hr1
  have hw : IntKind.i64.wrap ((k : Int) + (n0 : Int)) = (k : Int) + (n0 : Int) := IntWalk.i64_in _ (by omega)
  rw [Int.natCast_add] at t1 t2
  have hw2 : IntKind.i64.wrap (n0 : Int) = (n0 : Int) := IntWalk.i64_in _ (by omega)
  clear hb1 hb2 HV hr hsub
  generalize (l.drop k).take n0 = z at *
  go_enter Tryz.func114, Tryz.ntmps114
  go_wp2_with fail
  refine HU.out.mono ?_
  rintro e w' ⟨rfl, rfl⟩
  go_wp2_with fail
  refine HC.out.mono ?_
  rintro e w3 ⟨v3, rfl, p1, p2, -⟩
  have Q3 := Lib.hid p1.rd
  have N3 := Lib.hid p2
  clear p1 p2
  go_wp2
  refine bodyPost_ret (v := .tuple #[v3, .int .i64 ((k : Int) + (n0 : Int)), .int .i64 0]) (by simp [results, Tryz.results114, go_sem]) rfl ⟨_, by simp, Q3.out, N3.out⟩
end Go.Proofs.YtjapijndljknnaaGreatDoor
