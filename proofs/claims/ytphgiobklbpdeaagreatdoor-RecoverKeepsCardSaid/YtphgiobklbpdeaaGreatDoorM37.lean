/-
  Texts merged by a program of this claim's: Sames, EndPlain, EndUse, Picks, Law6B.
-/
import Derived.Test.YtphgiobklbpdeaaGreatDoorM19
import Derived.Test.YtphgiobklbpdeaaGreatDoorM16
import Derived.Laws.StructEq
import Derived.Test.YtphgiobklbpdeaaGreatDoorM25
import Derived.Test.YtphgiobklbpdeaaGreatDoorM31
import Derived.Test.YtphgiobklbpdeaaGreatDoorM13
import Derived.Test.YtphgiobklbpdeaaGreatDoorM12
import Derived.Test.YtphgiobklbpdeaaGreatDoorM9
import Derived.Test.YtphgiobklbpdeaaGreatDoorM36
import Derived.Test.YtphgiobklbpdeaaGreatDoorM34
/-
  The statements' comparisons of lists that are the same: SamePieces, SameEvents.
-/
namespace Go.Proofs.YtphgiobklbpdeaaGreatDoor
open Go Go.RowKit Go.Sort
set_option maxRecDepth 100000
set_option maxHeartbeats 1600000

theorem neq_pc (q : Pc) (w : World) : (binOp .neq 44 (.agg #[.string ⟨q.name.toArray⟩, .int .i64 q.first, .int .i64 q.count, .bool q.dense]) (.agg #[.string ⟨q.name.toArray⟩, .int .i64 q.first, .int .i64 q.count, .bool q.dense])).run Tryz.prog w = .ok (.bool false) w := by
  have hS : Tryz.prog.underlying 44 = some (.struct (Tryz.prog.fieldsOf 44)) := by kernel_rfl
  have hp : Tryz.prog.stoodInHeld 44 = false := by kernel_rfl
  have u1 := Tryz.underlying9
  have u2 := Tryz.underlying3
  have u3 := Tryz.underlying4
  rw [run_neq_struct, show (10000 : Nat) = 9999 + 1 from rfl, run_equalIn_agg w 9999 44 _ _ hS hp]
  simp only [Program.fieldsOf, Tryz.underlying44]
  go_simp
theorem neq_ev (e : Ev) (w : World) : (binOp .neq 80 (.agg #[.int .i64 e.thread, .int .u8 e.op.toNat, .int .i64 e.obj, .int .i64 e.a, .int .i64 e.b]) (.agg #[.int .i64 e.thread, .int .u8 e.op.toNat, .int .i64 e.obj, .int .i64 e.a, .int .i64 e.b])).run Tryz.prog w = .ok (.bool false) w := by
  have hS : Tryz.prog.underlying 80 = some (.struct (Tryz.prog.fieldsOf 80)) := by kernel_rfl
  have hp : Tryz.prog.stoodInHeld 80 = false := by kernel_rfl
  have u1 := Tryz.underlying3
  have u2 := Tryz.underlying78
  rw [run_neq_struct, show (10000 : Nat) = 9999 + 1 from rfl, run_equalIn_agg w 9999 80 _ _ hS hp]
  simp only [Program.fieldsOf, Tryz.underlying80]
  go_simp
theorem SamePieces_ok {w : World} {v u : Value} {l : List Pc} (h : Pcs w v l) (h' : Pcs w u l) :
    Calls Tryz.prog 22 #[v, u] w fun e w' => e = .returned (.bool true) ∧ Nw w w' := by
  obtain ⟨la, lc, rfl, hl1, hl2, hle⟩ := h.elem
  obtain ⟨ka, kc, rfl, -, -, hke⟩ := h'.elem
  have HL := Lib.hid hle
  have HK := Lib.hid hke
  obtain ⟨n, hn⟩ : ∃ n, l.length = n := ⟨_, rfl⟩
  have HN := Lib.hid hn
  have hn63 : n ≤ 9223372036854775807 := by unfold maxLen at hl2; omega
  rw [hn]
  have hgd : Tryz.prog.eqGuardType Tryz.prog.depth 44 = false := by kernel_rfl
  clear h h' hle hke hl1 hl2 hn
  go_enter Tryz.func22, Tryz.ntmps22
  go_wp2
  go_loopw [5] (fun i wr => ∃ k : Nat, k ≤ n ∧ i = .int .i64 k ∧ Nw w wr) (fun i _ => n - (intOf i).toNat)
  case atStart => exact ⟨0, Nat.zero_le _, rfl, Nw.refl _⟩
  case round =>
    obtain ⟨k, hk, rfl, hwr⟩ := hrel
    have HW := Lib.hid hwr
    clear hwr
    by_cases hlt : k < n
    · have hkl : k < l.length := by rw [HN.out]; exact hlt
      obtain ⟨g, o, rfl, hg, c0, c1, c2, c3⟩ := HL.out k hkl
      obtain ⟨g2, o2, rfl, hg2, d0, d1, d2, d3⟩ := HK.out k hkl
      generalize l[k] = q at c0 c1 c2 c3 d0 d1 d2 d3
      have heq := neq_pc q
      have c0 := HW.out.cell c0
      have c1 := HW.out.cell c1
      have c2 := HW.out.cell c2
      have c3 := HW.out.cell c3
      have d0 := HW.out.cell d0
      have d1 := HW.out.cell d1
      have d2 := HW.out.cell d2
      have d3 := HW.out.cell d3
      have hg := Nat.lt_of_lt_of_le hg HW.out.size
      have hg2 := Nat.lt_of_lt_of_le hg2 HW.out.size
      clear hkl
      go_upto_region 6 with fail
      have c0 := cellG c0
      have c1 := cellG c1
      have c2 := cellG c2
      have c3 := cellG c3
      have d0 := cellG d0
      have d1 := cellG d1
      have d2 := cellG d2
      have d3 := cellG d3
      refine wp_region_quiet_below (by kernel_rfl) (by kernel_rfl) ?_
      repeat (first | go_big_quiet_step (fail) | quiet_step (fail))
      refine wpQuiet_nil ?_
      intro w2 hw2
      have hw2 := Lib.hid (Nw.of_regrown hw2)
      clear c0 c1 c2 c3 d0 d1 d2 d3 heq
      go_wp2
      go_roundw
      case rel => exact ⟨k + 1, by omega, by go_num, HW.out.trans hw2.out⟩
      case measure => simp [intOf]; omega
    · go_wp2
      go_ret
      exact ⟨rfl, HW.out⟩
theorem SameEvents_ok {w : World} {v u : Value} {l : List Ev} (h : Evs w v l) (h' : Evs w u l) :
    Calls Tryz.prog 34 #[v, u] w fun e w' => e = .returned (.bool true) ∧ Nw w w' := by
  obtain ⟨la, lc, rfl, hl2, hle⟩ := h.elem
  obtain ⟨ka, kc, rfl, -, hke⟩ := h'.elem
  have HL := Lib.hid hle
  have HK := Lib.hid hke
  obtain ⟨n, hn⟩ : ∃ n, l.length = n := ⟨_, rfl⟩
  have HN := Lib.hid hn
  have hn63 : n ≤ 9223372036854775807 := by unfold maxLen at hl2; omega
  rw [hn]
  have hgd : Tryz.prog.eqGuardType Tryz.prog.depth 80 = false := by kernel_rfl
  clear h h' hle hke hl2 hn
  go_enter Tryz.func34, Tryz.ntmps34
  go_wp2
  go_loopw [5] (fun i wr => ∃ k : Nat, k ≤ n ∧ i = .int .i64 k ∧ Nw w wr) (fun i _ => n - (intOf i).toNat)
  case atStart => exact ⟨0, Nat.zero_le _, rfl, Nw.refl _⟩
  case round =>
    obtain ⟨k, hk, rfl, hwr⟩ := hrel
    have HW := Lib.hid hwr
    clear hwr
    by_cases hlt : k < n
    · have hkl : k < l.length := by rw [HN.out]; exact hlt
      obtain ⟨g, o, rfl, hg, c0, c1, c2, c3, c4⟩ := HL.out k hkl
      obtain ⟨g2, o2, rfl, hg2, d0, d1, d2, d3, d4⟩ := HK.out k hkl
      generalize l[k] = q at c0 c1 c2 c3 c4 d0 d1 d2 d3 d4
      have heq := neq_ev q
      have c0 := HW.out.cell c0
      have c1 := HW.out.cell c1
      have c2 := HW.out.cell c2
      have c3 := HW.out.cell c3
      have c4 := HW.out.cell c4
      have d0 := HW.out.cell d0
      have d1 := HW.out.cell d1
      have d2 := HW.out.cell d2
      have d3 := HW.out.cell d3
      have d4 := HW.out.cell d4
      have hg := Nat.lt_of_lt_of_le hg HW.out.size
      have hg2 := Nat.lt_of_lt_of_le hg2 HW.out.size
      clear hkl
      go_upto_region 6 with fail
      have c0 := cellG c0
      have c1 := cellG c1
      have c2 := cellG c2
      have c3 := cellG c3
      have c4 := cellG c4
      have d0 := cellG d0
      have d1 := cellG d1
      have d2 := cellG d2
      have d3 := cellG d3
      have d4 := cellG d4
      refine wp_region_quiet_below (by kernel_rfl) (by kernel_rfl) ?_
      repeat (first | go_big_quiet_step (fail) | quiet_step (fail))
      refine wpQuiet_nil ?_
      intro w2 hw2
      have hw2 := Lib.hid (Nw.of_regrown hw2)
      clear c0 c1 c2 c3 c4 d0 d1 d2 d3 d4 heq
      go_wp2
      go_roundw
      case rel => exact ⟨k + 1, by omega, by go_num, HW.out.trans hw2.out⟩
      case measure => simp [intOf]; omega
    · go_wp2
      go_ret
      exact ⟨rfl, HW.out⟩
end Go.Proofs.YtphgiobklbpdeaaGreatDoor

/-
  A log behind some frames of at most 30 events, on any disk: bounds; it is over exactly where a call erred (plain words).
-/
namespace Go.Proofs.YtphgiobklbpdeaaGreatDoor
open Go
set_option maxRecDepth 100000
theorem frm_le30 {es : List Ev} (h : es.length ≤ 30) : (frmB es).length ≤ 1239 := by
  have := frameB_len (sum := sumB) (fun b => sumB_len b) es (by omega)
  have e : (frmB es).length = (frameB sumB es).length := rfl
  omega
structure Bk (z : Int) (c : Nat) (L : Lg) : Prop where
  some_ : L.l ≠ []
  len : L.l.length ≤ c + 1
  n : L.n ≤ 30 * c
  bytes : L.bytes ≤ 18 + c * 1239
  size : L.size = z
  last : 0 ≤ (lastP L.l).first
theorem Bk.new {z : Int} : Bk z 0 (newLg z) := by
  have hb : (headB 0).length ≤ 18 := headB_len (n := 0) (by omega)
  exact ⟨by simp [newLg], by simp [newLg], by simp [newLg], by simpa [newLg] using hb, rfl, by simp [newLg, lastP]⟩
section
variable {z : Int} {c : Nat} {d : Dsk} {L : Lg} {es : List Ev}
theorem Bk.mono {c' : Nat} (h : Bk z c L) (hc : c ≤ c') : Bk z c' L := ⟨h.some_, by have := h.len; omega, by have := h.n; omega, by have := h.bytes; have := Nat.mul_le_mul_right 1239 hc; omega, h.size, h.last⟩
theorem Bk.same {L' : Lg} (h : Bk z c L) (h1 : L'.l = L.l) (h2 : L'.n = L.n) (h3 : L'.bytes = L.bytes) (h4 : L'.size = L.size) : Bk z c L' :=
  ⟨by rw [h1]; exact h.some_, by rw [h1]; exact h.len, by rw [h2]; exact h.n, by rw [h3]; exact h.bytes, by rw [h4]; exact h.size, by rw [h1]; exact h.last⟩
theorem another_any (L : Lg) (d : Dsk) : (L.another d).L.over = L.over ∧ (L.another d).L.n = L.n ∧ (L.another d).L.size = L.size ∧
    (((L.another d).L.l = L.l ∧ (L.another d).L.bytes = L.bytes) ∨ ((L.another d).L.l = morePcs L ∧ (L.another d).L.bytes = (headB L.n).length)) := by
  unfold Lg.another
  repeat' split
  all_goals exact ⟨rfl, rfl, rfl, by first | exact .inl ⟨rfl, rfl⟩ | exact .inr ⟨rfl, rfl⟩⟩
theorem morePcs_len (h : L.l ≠ []) : (morePcs L).length = L.l.length + 1 := by
  have := List.length_pos_iff.2 h
  simp only [morePcs, List.length_append, List.length_dropLast, List.length_cons, List.length_nil]
  omega
theorem morePcs_last (L : Lg) : lastP (morePcs L) = ⟨segName L.n, L.n, 0, false⟩ := by
  unfold morePcs
  rw [show ∀ (a : List Pc) (x y : Pc), a ++ [x, y] = (a ++ [x]) ++ [y] by intro a x y; simp, lastP_snoc]
theorem Bk.roomed (h : Bk z c L) (hc : c ≤ 1000000) : (L.roomed d).L.over = L.over ∧ (L.roomed d).L.n = L.n ∧ (L.roomed d).L.bytes ≤ 18 + c * 1239 ∧ (L.roomed d).L.size = z ∧ (L.roomed d).L.l ≠ [] ∧ (L.roomed d).L.l.length ≤ c + 2 ∧ 0 ≤ (lastP (L.roomed d).L.l).first := by
  have hl := h.len
  have hs := h.some_
  unfold Lg.roomed
  split
  · obtain ⟨a1, a2, a3, ⟨a4, a5⟩ | ⟨a4, a5⟩⟩ := another_any L d
    · exact ⟨a1, a2, by rw [a5]; exact h.bytes, by rw [a3]; exact h.size, by rw [a4]; exact hs, by rw [a4]; omega, by rw [a4]; exact h.last⟩
    · have hh : (headB L.n).length ≤ 18 := headB_len (n := L.n) (by have := h.n; omega)
      refine ⟨a1, a2, by rw [a5]; omega, by rw [a3]; exact h.size, by rw [a4]; simp [morePcs], by rw [a4, morePcs_len hs]; omega, by rw [a4, morePcs_last]; simp⟩
  · exact ⟨rfl, rfl, h.bytes, h.size, hs, by simp only; omega, h.last⟩
/-- Behind Append. -/
theorem Bk.add (h : Bk z c L) (hc : c ≤ 1000000) (ho : L.over = false) (h1 : es.length ≠ 0) (h2 : es.length ≤ 30) : Bk z (c + 1) (L.add d es).L ∧ (L.add d es).L.over = decide ((L.add d es).e ≠ 0) := by
  obtain ⟨r1, r2, r3, r4, r5, r6, r7⟩ := h.roomed (d := d) hc
  have hf := frm_le30 h2
  have hn := h.n
  have hm : 18 + c * 1239 + 1239 = 18 + (c + 1) * 1239 := by rw [Nat.add_mul]; omega
  unfold Lg.add
  rw [if_neg (by rw [ho]; simp), if_neg h1, if_neg (by omega)]
  split
  · rename_i he
    exact ⟨⟨r5, r6, by simp only; omega, by simp only; omega, r4, r7⟩, by simp [he]⟩
  · rename_i he
    unfold Lg.put
    split
    · rename_i hp
      exact ⟨⟨r5, r6, by simp only; omega, by simp only; omega, r4, r7⟩, by simp [hp]⟩
    · exact ⟨⟨r5, r6, by simp only; omega, by simp only; omega, r4, r7⟩, by simp only; rw [r1, ho]; simp⟩
end
end Go.Proofs.YtphgiobklbpdeaaGreatDoor

/-
  A log that is over: each call tells so, and changes nothing. A log on any disk behind few frames.
-/
namespace Go.Proofs.YtphgiobklbpdeaaGreatDoor
open Go Go.RowKit Go.Sort
set_option maxRecDepth 100000
set_option maxHeartbeats 1600000
section
variable {X Y : Nat → Prop} {w0 w w' : World} {p b : Nat} {d d' : Dsk} {L : Lg}
theorem HasL.upOver (h : HasL X w0 w p b d L) (hov : L.over = true) : Calls Tryz.prog 108 #[.pointer (some ⟨p, 0, none⟩)] w fun e w' => e = .returned (.int .i64 16) ∧ w = w' := by
  obtain ⟨g, o, cap, h⟩ := h
  have := lup_ok h.mem
  rw [hov] at this
  exact this
theorem Append_ov (h : HasL X w0 w p b d L) (hov : L.over = true) (v : Value) (hv : ∃ a n c, v = .slice a n c) : Calls Tryz.prog 54 #[.pointer (some ⟨p, 0, none⟩), v] w fun e w' => e = .returned (.int .i64 16) ∧ w = w' := by
  obtain ⟨a, n, c, rfl⟩ := hv
  have HU := Lib.hid (h.upOver hov)
  clear h hov
  go_enter Tryz.func54, Tryz.ntmps54
  go_wp2_with fail
  refine HU.out.mono ?_
  rintro e w1 ⟨rfl, rfl⟩
  go_wp2
  go_ret
  exact ⟨rfl, rfl⟩
theorem Sync_ov (h : HasL X w0 w p b d L) (hov : L.over = true) : Calls Tryz.prog 56 #[.pointer (some ⟨p, 0, none⟩)] w fun e w' => e = .returned (.int .i64 16) ∧ w = w' := by
  have HU := Lib.hid (h.upOver hov)
  clear h hov
  go_enter Tryz.func56, Tryz.ntmps56
  go_wp2_with fail
  refine HU.out.mono ?_
  rintro e w1 ⟨rfl, rfl⟩
  go_wp2
  go_ret
  exact ⟨rfl, rfl⟩
theorem Swap_ov (h : HasL X w0 w p b d L) (hov : L.over = true) (v : Value) (hv : ∃ a n c, v = .slice a n c) : Calls Tryz.prog 104 #[.pointer (some ⟨p, 0, none⟩), v] w fun e w' => e = .returned (.int .i64 16) ∧ w = w' := by
  obtain ⟨a, n, c, rfl⟩ := hv
  have HU := Lib.hid (h.upOver hov)
  clear h hov
  go_enter Tryz.func104, Tryz.ntmps104
  go_wp2_with fail
  refine HU.out.mono ?_
  rintro e w1 ⟨rfl, rfl⟩
  go_wp2
  go_ret
  exact ⟨rfl, rfl⟩
theorem Bk.call {z : Int} {c : Nat} (h : HasL X w0 w p b d L) (hs : Bk z c L) (hz : in64 z) (hc : c ≤ 1000) (hl : L.l.length ≤ 1000) (ht : Tab w0) {v : Value} {es : List Ev} (hv : Evs w v es) :
    Calls Tryz.prog 54 #[.pointer (some ⟨p, 0, none⟩), v] w (DidL X w0 w p b (L.add d es).d (L.add d es).L (.int .i64 (L.add d es).e)) := by
  have h1 := hs.n
  have h2 := hs.bytes
  exact LAppend_ok h ht ⟨by omega, by omega⟩ hs.last hl (by rw [hs.size]; exact hz) hv h.pok
theorem HasL.armed (h : HasL X w0 w p b d L) (k : Int) (hk : k ≤ 9223372036854775807) : Calls Tryz.prog 53 #[.pointer (some ⟨b, 0, none⟩), .int .i64 k] w (DidL X w0 w p b (d.armed k) L (.tuple #[])) :=
  h.step fun _ _ hY => hY.arm k hk rfl
end
end Go.Proofs.YtphgiobklbpdeaaGreatDoor

/-
  The statements' choices and copies, walked: Pick, CopyBytes.
-/
namespace Go.Proofs.YtphgiobklbpdeaaGreatDoor
open Go Go.RowKit Go.Sort
set_option maxRecDepth 100000
set_option maxHeartbeats 1600000

theorem tmod_pick (x n : Int) (hn : 0 < n) : -n < x.tmod n ∧ x.tmod n < n ∧ (x.tmod n + n).tmod n = x % n := by
  have h0 := Int.emod_nonneg x (by omega : n ≠ 0)
  have h1 := Int.emod_lt_of_pos x hn
  have e : x.tmod n = x % n ∨ (x.tmod n = x % n - n ∧ x % n ≠ 0) := by
    rw [Int.tmod_eq_emod]
    by_cases hc : 0 ≤ x ∨ n ∣ x
    · rw [if_pos hc]; left; simp
    · rw [if_neg hc]; right
      refine ⟨by omega, fun h => hc (.inr (Int.dvd_of_emod_eq_zero h))⟩
  have key : ∀ y : Int, y = x % n ∨ y = x % n - n → (y + n).tmod n = x % n := by
    rintro y (rfl | rfl)
    · rw [Int.tmod_eq_emod_of_nonneg (by omega), Int.add_emod_right, Int.emod_emod]
    · rw [show x % n - n + n = x % n by omega, Int.tmod_eq_emod_of_nonneg h0, Int.emod_emod]
  refine ⟨?_, ?_, key _ (e.imp id (fun h => h.1))⟩
  · rcases e with e | ⟨e, h⟩ <;> omega
  · rcases e with e | ⟨e, h⟩ <;> omega
theorem Pick_ok (x n : Int) (w : World) (h2 : 2 ≤ n) (hn : n ≤ 1000000007) :
    Calls Tryz.prog 37 #[.int .i64 x, .int .i64 n] w fun e w' => e = .returned (.int .i64 (x % n)) ∧ w = w' := by
  obtain ⟨k1, k2, k3⟩ := tmod_pick x n (by omega)
  have hz0 := Int.emod_nonneg x (by omega : n ≠ 0)
  have hz1 := Int.emod_lt_of_pos x (by omega : 0 < n)
  obtain ⟨y, hy⟩ : ∃ y, x.tmod n = y := ⟨_, rfl⟩
  obtain ⟨z, hz⟩ : ∃ z, x % n = z := ⟨_, rfl⟩
  rw [hy] at k1 k2 k3
  rw [hz] at k3 hz0 hz1 ⊢
  clear hz
  go_enter Tryz.func37, Tryz.ntmps37
  go_wp2
  go_ret
  exact ⟨rfl, rfl⟩

theorem CopyBytes_ok {w : World} {v : Value} {l : List UInt8} (h : Bs w v l) (hl : l.length ≤ 9223372036854775807) :
    Calls Tryz.prog 17 #[v] w fun e w' => ∃ v', e = .returned v' ∧ Vec 1 w' v' l.length (l.map u8) ∧ Nw w w' ∧ ∀ g, v'.ownBlock = some g → w.heap.size ≤ g := by
  have c1 := conv_str h
  have hV := Vec.of_conv w 5 l (by unfold maxLen; omega)
  have c2 : (convert 9 23 (.string ⟨l.toArray⟩)).run Tryz.prog w = .ok (.slice (some ⟨w.heap.size, 0, none⟩) l.length (grownCap w l.length 0 5)) (Lib.bytesWorld w 5 ⟨l.toArray⟩) :=
    Lib.run_convert_string_bytes (P := Tryz.prog) w 9 23 5 ⟨l.toArray⟩ Tryz.underlying9 Tryz.underlying23 Tryz.underlying5
  generalize Lib.bytesWorld w 5 ⟨l.toArray⟩ = w1 at c2 hV
  have HV := Lib.hid hV
  clear hV
  clear h
  go_enter Tryz.func17, Tryz.ntmps17
  go_wp2
  go_ret
  exact ⟨.slice (some ⟨w.heap.size, 0, none⟩) l.length (grownCap w l.length 0 5), rfl, HV.out.1, HV.out.2, fun g hg => by cases hg; exact Nat.le_refl _⟩
end Go.Proofs.YtphgiobklbpdeaaGreatDoor

/-
  amanuensislaw06.built, walked: a disk with a log of few frames.
-/
namespace Go.Proofs.YtphgiobklbpdeaaGreatDoor
open Go Go.RowKit Go.Sort
set_option maxRecDepth 100000
set_option maxHeartbeats 1600000
section
variable {X : Nat → Prop} {w0 w1 w : World} {b : Nat} {d : Dsk}
theorem HasX.rebase (h : HasX X w1 w b d) (hn : Nw w0 w1) : HasX X w0 w b d := by
  obtain ⟨S, h1, h2, h3, h4⟩ := h
  exact ⟨S, h1, hn.trans h2, fun k hk => Nat.le_trans hn.size (h3 k hk), h4⟩
end
theorem frames_nw {w w' : World} {v : Value} {fs : List (List Ev)} (h : RdK 1 (isEvs w) w v fs) (hw : Nw w w') : RdK 1 (isEvs w') w' v fs := by
  rcases h.nw hw with h | ⟨g, o, cap, rfl, h1, h2, hg, h3⟩
  · exact .inl h
  · refine .inr ⟨g, o, cap, rfl, h1, h2, hg, fun i hi => ?_⟩
    obtain ⟨cs, hk, hc, u, hu, he⟩ := h3 i hi
    exact ⟨cs, hk, hc, u, hu, he.nw hw⟩
theorem den_new (m : Int) : DenFor (fun _ => (0, [], 0)) (newDsk m) := .inr (fun q hq => by
  have : ((newDsk m).read manifestS).1 = [] := rfl
  rw [this] at hq
  cases hq)
/-- What 'built' hands back. -/
structure Built (w w' : World) (size sync : Int) (fs : List (List Ev)) (b : Nat) (v : Value) (d : Dsk) (L : Lg) (all : List Ev) (c : Nat) : Prop where
  plain : buildD size sync fs = (d, L, all)
  bt : Bt size c d L all
  few : c ≤ 40
  disk : HasX (fun k => v.ownBlock = some k) w w' b d
  evs : Vec 5 w' v all.length (all.flatMap evV)
  ok : ∀ e ∈ all, e.Ok
  e0 : ∀ g, v.ownBlock = some g → w.heap.size ≤ g
theorem built_ok (w : World) (ht : Tab w) (v0 : Value) (fs : List (List Ev)) (size sync : Int) (h0 : RdK 1 (isEvs w) w v0 fs) :
    Calls Tryz.prog 32 #[.agg #[v0, .int .i64 size, .int .i64 sync]] w fun e w' => ∃ b v d L all c, e = .returned (.tuple #[.pointer (some ⟨b, 0, none⟩), v, .bool true]) ∧ Built w w' (64 + size % 200) sync fs b v d L all c := by
  have HT := Lib.hid ht
  have HF := Lib.hid h0
  obtain ⟨a0, c0, rfl, -⟩ := h0.len
  clear ht h0
  obtain ⟨nf, hnf⟩ : ∃ n, fs.length = n := ⟨_, rfl⟩
  rw [hnf] at HF ⊢
  have HNF := Lib.hid hnf
  clear hnf
  have hp0 := Int.emod_nonneg size (by omega : (200 : Int) ≠ 0)
  have hp1 := Int.emod_lt_of_pos size (by omega : (0 : Int) < 200)
  have hwr : IntKind.i64.wrap (64 + size % 200) = 64 + size % 200 := IntWalk.i64_in _ (by omega)
  obtain ⟨d0, cr, pk⟩ := Bt.new (size := 64 + size % 200) (by omega) (by omega)
  have PK := Lib.hid pk
  have CR := Lib.hid cr
  have HOP : Hid (openD (fun _ => (0, [], 0)) (newDsk 1048576) (64 + size % 200) = ⟨d0, newLg (64 + size % 200), [], 0⟩) := Lib.hid (open_new (by omega) (by omega) cr)
  have HZ0 : Hid (in64 (64 + size % 200)) := Lib.hid ⟨by omega, by omega⟩
  clear pk cr hp0 hp1
  have n1 := (Nw.refl w).alloc (.cells #[.slice a0 nf c0, .int .i64 size, .int .i64 sync] 51)
  have b1 := heap_alloc_new w (.cells #[.slice a0 nf c0, .int .i64 size, .int .i64 sync] 51)
  have y1 := cell_of b1 (i := 1) rfl
  have hbl := lt_of_block b1
  have N1 := Lib.hid n1
  have B1 := Lib.hid b1
  clear n1 b1
  go_enter Tryz.func32, Tryz.ntmps32
  go_wp2_with fail
  obtain ⟨W1, hW1⟩ : ∃ W, w.alloc (.cells #[.slice a0 nf c0, .int .i64 size, .int .i64 sync] 51) = W := ⟨_, rfl⟩
  rw [hW1] at N1 B1 y1 hbl ⊢
  clear hW1
  refine (HasX.new 1048576 W1 (by omega) (by omega)).mono ?_
  rintro e w1 ⟨b, rfl, H1⟩
  have H1 := Lib.hid H1
  have y1 := H1.out.base.cell y1
  have hbl := Nat.lt_of_lt_of_le hbl H1.out.base.size
  go_wp2_with fail
  refine (Pick_ok size 200 w1 (by omega) (by omega)).mono ?_
  rintro e w2 ⟨rfl, rfl⟩
  have C := Open_ok H1.out (HT.out.nw N1.out) (den_new 1048576) (64 + size % 200)
  rw [HOP.out] at C
  have C := Lib.hid C
  clear y1 hbl
  go_wp2_with fail
  refine C.out.mono ?_
  rintro e w3 ⟨k3, ⟨-, p, v3, rfl, L3, -, -⟩ | ⟨hx, -⟩⟩
  case inr => exact absurd rfl hx
  have L3 := Lib.hid (L3.less (Y := fun _ => False) fun k hk => hk.elim)
  clear C H1 k3 HOP
  go_wp2
  go_loopw [10, 11] (fun s i wr => ∃ (k c m : Nat) (d : Dsk) (L : Lg) (all : List Ev), k ≤ 40 ∧ c ≤ k ∧ i = .int .i64 k ∧ buildFrom sync k ((fs.take 40).drop k) (d, L, all) = buildD (64 + size % 200) sync fs ∧ Bt (64 + size % 200) c d L all ∧ HasL (fun j => s.ownBlock = some j) W1 wr p b d L ∧ Vec 5 wr s m (all.flatMap evV) ∧ all.length = m ∧ m ≤ 30 * c ∧ (∀ e ∈ all, e.Ok) ∧ (∀ g, s.ownBlock = some g → W1.heap.size ≤ g)) (fun _ i _ => 40 - (intOf i).toNat)
  case atStart => exact ⟨0, 0, 0, d0, _, [], by omega, by omega, rfl, by unfold buildD; rw [CR.out]; rfl, PK.out, L3.out.grow (Only.refl _) (Z := fun _ => False) (fun k hk => hk.elim) (fun k hk => by cases hk), Vec.nil, rfl, by omega, (fun e he => by cases he), fun g hg => by cases hg⟩
  case round =>
    obtain ⟨k, c, m, d, L, all, hk, hck, rfl, hbd, hpk, hL, hs, hm, hmc, hok, hfr⟩ := hrel
    have BD := Lib.hid hbd
    have PK := Lib.hid hpk
    have HL := Lib.hid hL
    have HS := Lib.hid hs
    have HM := Lib.hid hm
    have HOK := Lib.hid hok
    have HFR := Lib.hid hfr
    obtain ⟨sa, sc, rfl, -⟩ := hs.len
    have hB := HL.out.base.at_ B1.out
    have y0 := cell_of hB (i := 0) rfl
    have y2 := cell_of hB (i := 2) rfl
    have hbl := lt_of_block hB
    clear hbd hpk hL hs hm hok hfr L3 hB
    have HEND : Hid (nf ≤ k ∨ 40 ≤ k → ∃ v d L all c, (Value.slice sa m sc) = v ∧ Built w wr (64 + size % 200) sync fs b v d L all c) := Lib.hid (fun he => by
      have hb := BD.out
      rw [buildFrom_end _ _ _ _ (by rw [List.length_take, HNF.out]; omega)] at hb
      refine ⟨_, d, L, all, c, rfl, hb.symm, PK.out, by omega, (HL.out.has).rebase N1.out, by rw [HM.out]; exact HS.out, HOK.out, fun g hg => Nat.le_trans N1.out.size (HFR.out g hg)⟩)
    by_cases h1 : k < nf
    case neg =>
      obtain ⟨v, d', L', all', c', rfl, hbt⟩ := HEND.out (.inl (by omega))
      have T := Lib.hid hbt
      clear hbt
      go_wp2
      refine bodyPost_ret (v := .tuple #[.pointer (some ⟨b, 0, none⟩), .slice sa m sc, .bool true]) (by simp [results, Tryz.results32, go_sem]) rfl ⟨b, _, d', L', all', c', rfl, T.out⟩
    by_cases h2 : k < 40
    case neg =>
      obtain ⟨v, d', L', all', c', rfl, hbt⟩ := HEND.out (.inr (by omega))
      have T := Lib.hid hbt
      clear hbt
      go_wp2
      refine bodyPost_ret (v := .tuple #[.pointer (some ⟨b, 0, none⟩), .slice sa m sc, .bool true]) (by simp [results, Tryz.results32, go_sem]) rfl ⟨b, _, d', L', all', c', rfl, T.out⟩
    obtain ⟨g, o, ea, ec, rfl, hg, hc0, hev⟩ := frame_at HF.out HNF.out h1
    have hkf : k < (fs.take 40).length := by rw [List.length_take, HNF.out]; omega
    have hb2 := BD.out
    rw [buildFrom_at _ _ _ _ hkf] at hb2
    have hfe : (fs.take 40)[k] = fs[k]'(by rw [HNF.out]; exact h1) := List.getElem_take
    rw [hfe] at hb2
    have hc1 := (N1.out.trans HL.out.base).cell hc0
    have EV := Lib.hid (hev.nw (N1.out.trans HL.out.base))
    have hgw : g < wr.heap.size := Nat.lt_of_lt_of_le hg (N1.out.trans HL.out.base).size
    have HCELL := Lib.hid hc0
    have HG := Lib.hid hg
    have HEV := Lib.hid hev
    have BD2 := Lib.hid hb2
    clear hc0 hev hg hb2 hfe hkf HEND
    generalize fs[k]'_ = es at hc1 EV HCELL HEV BD2
    obtain ⟨n, hn⟩ : ∃ n, es.length = n := ⟨_, rfl⟩
    have HN := Lib.hid hn
    rw [hn] at hc1 EV HCELL HEV
    clear hn
    by_cases hz : n = 0
    case pos =>
      subst hz
      have hb3 := BD2.out
      rw [buildStep_none (.inl HN.out)] at hb3
      have BD3 := Lib.hid hb3
      clear hb3
      go_wp2_with fail
      go_roundw
      case rel => exact ⟨k + 1, c, m, d, L, all, by omega, by omega, by go_num, BD3.out, PK.out, HL.out, HS.out, HM.out, hmc, HOK.out, HFR.out⟩
      case measure => simp [intOf]; omega
    have hz1 : ((n : Int) == 0) = false := by simp; omega
    by_cases h30 : 30 < n
    case pos =>
      have hz2 : decide ((30 : Int) < (n : Int)) = true := by simp; omega
      have hb3 := BD2.out
      rw [buildStep_none (.inr (by rw [HN.out]; exact h30))] at hb3
      have BD3 := Lib.hid hb3
      clear hb3
      go_wp2_with fail
      go_roundw
      case rel => exact ⟨k + 1, c, m, d, L, all, by omega, by omega, by go_num, BD3.out, PK.out, HL.out, HS.out, HM.out, hmc, HOK.out, HFR.out⟩
      case measure => simp [intOf]; omega
    have hz2 : decide ((30 : Int) < (n : Int)) = false := by simp; omega
    obtain ⟨d', L', ad, pk', st1, d'', L'', sy, pk'', st2⟩ := PK.out.step (i := k) (sync := sync) (f := es) (by omega) (by rw [HN.out]; exact hz) (by rw [HN.out]; omega) HEV.out.ok
    have C := Ak.call HL.out PK.out.ak (by omega) HZ0.out (HT.out.nw N1.out) EV.out
    rw [ad] at C
    have C := Lib.hid C
    have PK' := Lib.hid pk'
    have PK'' := Lib.hid pk''
    have ST1 := Lib.hid st1
    have ST2 := Lib.hid st2
    have SY := Lib.hid sy
    clear ad pk' pk'' st1 st2 sy hz
    go_wp2_with fail
    refine C.out.mono ?_
    rintro e w5 ⟨rfl, L5, K5⟩
    have L5 := Lib.hid L5
    have S5 := Lib.hid (HS.out.kept K5 fun g hg => hg)
    clear C EV hc1 hgw HL HS K5 y0 y2 hbl
    have hB := L5.out.base.at_ B1.out
    have y0 := cell_of hB (i := 0) rfl
    have hbl := lt_of_block hB
    have hcl := (N1.out.trans L5.out.base).cell HCELL.out
    have hgl := Nat.lt_of_lt_of_le HG.out (N1.out.trans L5.out.base).size
    have X5 := Lib.hid ((HEV.out.nw (N1.out.trans L5.out.base)).src)
    rw [HN.out] at X5
    obtain ⟨i0, hi, hz0, hz1', hz2'⟩ := info_parts infoEv
    have HI := Lib.hid hi
    have HZ0' := Lib.hid hz0
    have HZ1 := Lib.hid hz1'
    have HZ2 := Lib.hid hz2'
    clear hi hz0 hz1' hz2' hB
    go_wp2_with (at_builtin; refine wpList_append_vec rfl _ _ 38 rfl 80 i0 (.agg #[.int .i64 0, .int .u8 0, .int .i64 0, .int .i64 0, .int .i64 0]) 5 40 Tryz.underlying38 HI.out HZ0'.out HZ1.out HZ2.out rfl (by decide) rfl rfl S5.out X5.out ?c1 ?c2 ?c3 ?_)
    case c1 => exact fun u hu => evV_one es u hu
    case c2 => unfold maxLen; omega
    case c3 => omega
    intro v5 w6 q5 q6 q7
    obtain ⟨ta, tc, rfl, -⟩ := q5.len
    have hlt5 := q5.lt
    have L6 : Hid (HasL (fun j => (Value.slice ta (m + n) tc).ownBlock = some j) W1 w6 p b d' L') := Lib.hid (L5.out.grow q6 (fun k hk _ => ⟨hk, HFR.out k hk⟩) (fun k hk => by
      rcases q7 with h | h
      · exact .inl (h ▸ hk)
      · exact .inr ⟨h k hk, hlt5 k hk⟩))
    have S6 : Hid (Vec 5 w6 (.slice ta (m + n) tc) (m + n) ((all ++ es).flatMap evV)) := Lib.hid (by rw [List.flatMap_append]; exact q5)
    have F6 : Hid (∀ g, (Value.slice ta (m + n) tc).ownBlock = some g → W1.heap.size ≤ g) := Lib.hid (fun g hg => by
      rcases q7 with h | h
      · exact HFR.out g (h ▸ hg)
      · exact Nat.le_trans L5.out.base.size (h g hg))
    have M6 : Hid ((all ++ es).length = m + n) := Lib.hid (by rw [List.length_append, HM.out, HN.out])
    have OK6 : Hid (∀ e ∈ all ++ es, e.Ok) := Lib.hid (fun e he => by
      rcases List.mem_append.1 he with he | he
      · exact HOK.out e he
      · exact HEV.out.ok e he)
    clear q5 q6 q7 hlt5 y0 hbl hcl hgl L5 S5 X5
    have hB := L6.out.base.at_ B1.out
    have y2 := cell_of hB (i := 2) rfl
    have hbl := lt_of_block hB
    clear hB
    by_cases hsy : (k : Int) = sync
    case neg =>
      have qs : ((k : Int) == sync) = false := by simpa using hsy
      have hb3 := BD2.out
      rw [ST1.out hsy] at hb3
      have BD3 := Lib.hid hb3
      clear hb3 hsy
      go_wp2_with fail
      go_roundw
      case rel => exact ⟨k + 1, c + 1, m + n, d', L', all ++ es, by omega, by omega, by go_num, BD3.out, PK'.out, L6.out, S6.out, M6.out, by omega, OK6.out, F6.out⟩
      case measure => simp [intOf]; omega
    have qs : ((k : Int) == sync) = true := by simpa using hsy
    have hb3 := BD2.out
    rw [ST2.out hsy] at hb3
    have BD3 := Lib.hid hb3
    have C := LSync_ok L6.out
    rw [SY.out] at C
    have C := Lib.hid C
    clear hb3 hsy
    go_wp2_with fail
    refine C.out.mono ?_
    rintro e w8 ⟨rfl, L8, K8⟩
    have L8 := Lib.hid L8
    have S8 := Lib.hid (S6.out.kept K8 fun g hg => hg)
    clear K8 C
    go_wp2_with fail
    go_roundw
    case rel => exact ⟨k + 1, c + 1, m + n, d'', L'', all ++ es, by omega, by omega, by go_num, BD3.out, PK''.out, L8.out, S8.out, M6.out, by omega, OK6.out, F6.out⟩
    case measure => simp [intOf]; omega
end Go.Proofs.YtphgiobklbpdeaaGreatDoor
