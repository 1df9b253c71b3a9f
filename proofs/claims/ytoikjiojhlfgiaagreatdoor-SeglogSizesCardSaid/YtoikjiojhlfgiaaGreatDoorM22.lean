/-
  Texts merged by a program of this claim's: EndPlain, Sames, EndUse.
-/
import Derived.Test.YtoikjiojhlfgiaaGreatDoorM18
import Derived.Test.YtoikjiojhlfgiaaGreatDoorM13
import Derived.Test.YtoikjiojhlfgiaaGreatDoorM11
import Derived.Laws.StructEq
import Derived.Test.YtoikjiojhlfgiaaGreatDoorM21
import Derived.Test.YtoikjiojhlfgiaaGreatDoorM10
/-
  A log behind some frames of at most 30 events, on any disk: bounds; it is over exactly where a call erred (plain words).
-/
namespace Go.Proofs.YtoikjiojhlfgiaaGreatDoor
open Go
set_option maxRecDepth 100000
theorem frm_le30 {es : List Ev} (h : es.length ≤ 30) : (frmB es).length ≤ 1239 := by
  have := frameB_len (sum := sumB) (fun b => sumB_len b) es (by omega)
  have e : (frmB es).length = (frameB sumB es).length := rfl
  omega
structure Bk (z : Int) (c : Nat) (L : Lg) : Prop where
  some_ : L.l ≠ []
  len : L.l.length ≤ c + 1
  n : L.n ≤ 30 * c
  bytes : L.bytes ≤ 18 + c * 1239
  size : L.size = z
  last : 0 ≤ (lastP L.l).first
theorem Bk.new {z : Int} : Bk z 0 (newLg z) := by
  have hb : (headB 0).length ≤ 18 := headB_len (n := 0) (by omega)
  exact ⟨by simp [newLg], by simp [newLg], by simp [newLg], by simpa [newLg] using hb, rfl, by simp [newLg, lastP]⟩
section
variable {z : Int} {c : Nat} {d : Dsk} {L : Lg} {es : List Ev}
theorem Bk.mono {c' : Nat} (h : Bk z c L) (hc : c ≤ c') : Bk z c' L := ⟨h.some_, by have := h.len; omega, by have := h.n; omega, by have := h.bytes; have := Nat.mul_le_mul_right 1239 hc; omega, h.size, h.last⟩
theorem Bk.same {L' : Lg} (h : Bk z c L) (h1 : L'.l = L.l) (h2 : L'.n = L.n) (h3 : L'.bytes = L.bytes) (h4 : L'.size = L.size) : Bk z c L' :=
  ⟨by rw [h1]; exact h.some_, by rw [h1]; exact h.len, by rw [h2]; exact h.n, by rw [h3]; exact h.bytes, by rw [h4]; exact h.size, by rw [h1]; exact h.last⟩
theorem another_any (L : Lg) (d : Dsk) : (L.another d).L.over = L.over ∧ (L.another d).L.n = L.n ∧ (L.another d).L.size = L.size ∧
    (((L.another d).L.l = L.l ∧ (L.another d).L.bytes = L.bytes) ∨ ((L.another d).L.l = morePcs L ∧ (L.another d).L.bytes = (headB L.n).length)) := by
  unfold Lg.another
  repeat' split
  all_goals exact ⟨rfl, rfl, rfl, by first | exact .inl ⟨rfl, rfl⟩ | exact .inr ⟨rfl, rfl⟩⟩
theorem morePcs_len (h : L.l ≠ []) : (morePcs L).length = L.l.length + 1 := by
  have := List.length_pos_iff.2 h
  simp only [morePcs, List.length_append, List.length_dropLast, List.length_cons, List.length_nil]
  omega
theorem morePcs_last (L : Lg) : lastP (morePcs L) = ⟨segName L.n, L.n, 0, false⟩ := by
  unfold morePcs
  rw [show ∀ (a : List Pc) (x y : Pc), a ++ [x, y] = (a ++ [x]) ++ [y] by intro a x y; simp, lastP_snoc]
theorem Bk.roomed (h : Bk z c L) (hc : c ≤ 1000000) : (L.roomed d).L.over = L.over ∧ (L.roomed d).L.n = L.n ∧ (L.roomed d).L.bytes ≤ 18 + c * 1239 ∧ (L.roomed d).L.size = z ∧ (L.roomed d).L.l ≠ [] ∧ (L.roomed d).L.l.length ≤ c + 2 ∧ 0 ≤ (lastP (L.roomed d).L.l).first := by
  have hl := h.len
  have hs := h.some_
  unfold Lg.roomed
  split
  · obtain ⟨a1, a2, a3, ⟨a4, a5⟩ | ⟨a4, a5⟩⟩ := another_any L d
    · exact ⟨a1, a2, by rw [a5]; exact h.bytes, by rw [a3]; exact h.size, by rw [a4]; exact hs, by rw [a4]; omega, by rw [a4]; exact h.last⟩
    · have hh : (headB L.n).length ≤ 18 := headB_len (n := L.n) (by have := h.n; omega)
      refine ⟨a1, a2, by rw [a5]; omega, by rw [a3]; exact h.size, by rw [a4]; simp [morePcs], by rw [a4, morePcs_len hs]; omega, by rw [a4, morePcs_last]; simp⟩
  · exact ⟨rfl, rfl, h.bytes, h.size, hs, by simp only; omega, h.last⟩
/-- Behind Append. -/
theorem Bk.add (h : Bk z c L) (hc : c ≤ 1000000) (ho : L.over = false) (h1 : es.length ≠ 0) (h2 : es.length ≤ 30) : Bk z (c + 1) (L.add d es).L ∧ (L.add d es).L.over = decide ((L.add d es).e ≠ 0) := by
  obtain ⟨r1, r2, r3, r4, r5, r6, r7⟩ := h.roomed (d := d) hc
  have hf := frm_le30 h2
  have hn := h.n
  have hm : 18 + c * 1239 + 1239 = 18 + (c + 1) * 1239 := by rw [Nat.add_mul]; omega
  unfold Lg.add
  rw [if_neg (by rw [ho]; simp), if_neg h1, if_neg (by omega)]
  split
  · rename_i he
    exact ⟨⟨r5, r6, by simp only; omega, by simp only; omega, r4, r7⟩, by simp [he]⟩
  · rename_i he
    unfold Lg.put
    split
    · rename_i hp
      exact ⟨⟨r5, r6, by simp only; omega, by simp only; omega, r4, r7⟩, by simp [hp]⟩
    · exact ⟨⟨r5, r6, by simp only; omega, by simp only; omega, r4, r7⟩, by simp only; rw [r1, ho]; simp⟩
end
end Go.Proofs.YtoikjiojhlfgiaaGreatDoor

/-
  The statements' comparisons of lists that are the same: SamePieces, SameEvents.
-/
namespace Go.Proofs.YtoikjiojhlfgiaaGreatDoor
open Go Go.RowKit Go.Sort
set_option maxRecDepth 100000
set_option maxHeartbeats 1600000

theorem neq_pc (q : Pc) (w : World) : (binOp .neq 40 (.agg #[.string ⟨q.name.toArray⟩, .int .i64 q.first, .int .i64 q.count, .bool q.dense]) (.agg #[.string ⟨q.name.toArray⟩, .int .i64 q.first, .int .i64 q.count, .bool q.dense])).run Tryz.prog w = .ok (.bool false) w := by
  have hS : Tryz.prog.underlying 40 = some (.struct (Tryz.prog.fieldsOf 40)) := by kernel_rfl
  have hp : Tryz.prog.stoodInHeld 40 = false := by kernel_rfl
  have u1 := Tryz.underlying9
  have u2 := Tryz.underlying3
  have u3 := Tryz.underlying4
  rw [run_neq_struct, show (10000 : Nat) = 9999 + 1 from rfl, run_equalIn_agg w 9999 40 _ _ hS hp]
  simp only [Program.fieldsOf, Tryz.underlying40]
  go_simp
theorem neq_ev (e : Ev) (w : World) : (binOp .neq 55 (.agg #[.int .i64 e.thread, .int .u8 e.op.toNat, .int .i64 e.obj, .int .i64 e.a, .int .i64 e.b]) (.agg #[.int .i64 e.thread, .int .u8 e.op.toNat, .int .i64 e.obj, .int .i64 e.a, .int .i64 e.b])).run Tryz.prog w = .ok (.bool false) w := by
  have hS : Tryz.prog.underlying 55 = some (.struct (Tryz.prog.fieldsOf 55)) := by kernel_rfl
  have hp : Tryz.prog.stoodInHeld 55 = false := by kernel_rfl
  have u1 := Tryz.underlying3
  have u2 := Tryz.underlying53
  rw [run_neq_struct, show (10000 : Nat) = 9999 + 1 from rfl, run_equalIn_agg w 9999 55 _ _ hS hp]
  simp only [Program.fieldsOf, Tryz.underlying55]
  go_simp
theorem SamePieces_ok {w : World} {v u : Value} {l : List Pc} (h : Pcs w v l) (h' : Pcs w u l) :
    Calls Tryz.prog 31 #[v, u] w fun e w' => e = .returned (.bool true) ∧ Nw w w' := by
  obtain ⟨la, lc, rfl, hl1, hl2, hle⟩ := h.elem
  obtain ⟨ka, kc, rfl, -, -, hke⟩ := h'.elem
  have HL := Lib.hid hle
  have HK := Lib.hid hke
  obtain ⟨n, hn⟩ : ∃ n, l.length = n := ⟨_, rfl⟩
  have HN := Lib.hid hn
  have hn63 : n ≤ 9223372036854775807 := by unfold maxLen at hl2; omega
  rw [hn]
  have hgd : Tryz.prog.eqGuardType Tryz.prog.depth 40 = false := by kernel_rfl
  clear h h' hle hke hl1 hl2 hn
  go_enter Tryz.func31, Tryz.ntmps31
  go_wp2
  go_loopw [5] (fun i wr => ∃ k : Nat, k ≤ n ∧ i = .int .i64 k ∧ Nw w wr) (fun i _ => n - (intOf i).toNat)
  case atStart => exact ⟨0, Nat.zero_le _, rfl, Nw.refl _⟩
  case round =>
    obtain ⟨k, hk, rfl, hwr⟩ := hrel
    have HW := Lib.hid hwr
    clear hwr
    by_cases hlt : k < n
    · have hkl : k < l.length := by rw [HN.out]; exact hlt
      obtain ⟨g, o, rfl, hg, c0, c1, c2, c3⟩ := HL.out k hkl
      obtain ⟨g2, o2, rfl, hg2, d0, d1, d2, d3⟩ := HK.out k hkl
      generalize l[k] = q at c0 c1 c2 c3 d0 d1 d2 d3
      have heq := neq_pc q
      have c0 := HW.out.cell c0
      have c1 := HW.out.cell c1
      have c2 := HW.out.cell c2
      have c3 := HW.out.cell c3
      have d0 := HW.out.cell d0
      have d1 := HW.out.cell d1
      have d2 := HW.out.cell d2
      have d3 := HW.out.cell d3
      have hg := Nat.lt_of_lt_of_le hg HW.out.size
      have hg2 := Nat.lt_of_lt_of_le hg2 HW.out.size
      clear hkl
      go_upto_region 6 with fail
      have c0 := cellG c0
      have c1 := cellG c1
      have c2 := cellG c2
      have c3 := cellG c3
      have d0 := cellG d0
      have d1 := cellG d1
      have d2 := cellG d2
      have d3 := cellG d3
      refine wp_region_quiet_below (by kernel_rfl) (by kernel_rfl) ?_
      repeat (first | go_big_quiet_step (fail) | quiet_step (fail))
      refine wpQuiet_nil ?_
      intro w2 hw2
      have hw2 := Lib.hid (Nw.of_regrown hw2)
      clear c0 c1 c2 c3 d0 d1 d2 d3 heq
      go_wp2
      go_roundw
      case rel => exact ⟨k + 1, by omega, by go_num, HW.out.trans hw2.out⟩
      case measure => simp [intOf]; omega
    · go_wp2
      go_ret
      exact ⟨rfl, HW.out⟩
theorem SameEvents_ok {w : World} {v u : Value} {l : List Ev} (h : Evs w v l) (h' : Evs w u l) :
    Calls Tryz.prog 59 #[v, u] w fun e w' => e = .returned (.bool true) ∧ Nw w w' := by
  obtain ⟨la, lc, rfl, hl2, hle⟩ := h.elem
  obtain ⟨ka, kc, rfl, -, hke⟩ := h'.elem
  have HL := Lib.hid hle
  have HK := Lib.hid hke
  obtain ⟨n, hn⟩ : ∃ n, l.length = n := ⟨_, rfl⟩
  have HN := Lib.hid hn
  have hn63 : n ≤ 9223372036854775807 := by unfold maxLen at hl2; omega
  rw [hn]
  have hgd : Tryz.prog.eqGuardType Tryz.prog.depth 55 = false := by kernel_rfl
  clear h h' hle hke hl2 hn
  go_enter Tryz.func59, Tryz.ntmps59
  go_wp2
  go_loopw [5] (fun i wr => ∃ k : Nat, k ≤ n ∧ i = .int .i64 k ∧ Nw w wr) (fun i _ => n - (intOf i).toNat)
  case atStart => exact ⟨0, Nat.zero_le _, rfl, Nw.refl _⟩
  case round =>
    obtain ⟨k, hk, rfl, hwr⟩ := hrel
    have HW := Lib.hid hwr
    clear hwr
    by_cases hlt : k < n
    · have hkl : k < l.length := by rw [HN.out]; exact hlt
      obtain ⟨g, o, rfl, hg, c0, c1, c2, c3, c4⟩ := HL.out k hkl
      obtain ⟨g2, o2, rfl, hg2, d0, d1, d2, d3, d4⟩ := HK.out k hkl
      generalize l[k] = q at c0 c1 c2 c3 c4 d0 d1 d2 d3 d4
      have heq := neq_ev q
      have c0 := HW.out.cell c0
      have c1 := HW.out.cell c1
      have c2 := HW.out.cell c2
      have c3 := HW.out.cell c3
      have c4 := HW.out.cell c4
      have d0 := HW.out.cell d0
      have d1 := HW.out.cell d1
      have d2 := HW.out.cell d2
      have d3 := HW.out.cell d3
      have d4 := HW.out.cell d4
      have hg := Nat.lt_of_lt_of_le hg HW.out.size
      have hg2 := Nat.lt_of_lt_of_le hg2 HW.out.size
      clear hkl
      go_upto_region 6 with fail
      have c0 := cellG c0
      have c1 := cellG c1
      have c2 := cellG c2
      have c3 := cellG c3
      have c4 := cellG c4
      have d0 := cellG d0
      have d1 := cellG d1
      have d2 := cellG d2
      have d3 := cellG d3
      have d4 := cellG d4
      refine wp_region_quiet_below (by kernel_rfl) (by kernel_rfl) ?_
      repeat (first | go_big_quiet_step (fail) | quiet_step (fail))
      refine wpQuiet_nil ?_
      intro w2 hw2
      have hw2 := Lib.hid (Nw.of_regrown hw2)
      clear c0 c1 c2 c3 c4 d0 d1 d2 d3 d4 heq
      go_wp2
      go_roundw
      case rel => exact ⟨k + 1, by omega, by go_num, HW.out.trans hw2.out⟩
      case measure => simp [intOf]; omega
    · go_wp2
      go_ret
      exact ⟨rfl, HW.out⟩
end Go.Proofs.YtoikjiojhlfgiaaGreatDoor

/-
  A log that is over: each call tells so, and changes nothing. A log on any disk behind few frames.
-/
namespace Go.Proofs.YtoikjiojhlfgiaaGreatDoor
open Go Go.RowKit Go.Sort
set_option maxRecDepth 100000
set_option maxHeartbeats 1600000
section
variable {X Y : Nat → Prop} {w0 w w' : World} {p b : Nat} {d d' : Dsk} {L : Lg}
theorem HasL.upOver (h : HasL X w0 w p b d L) (hov : L.over = true) : Calls Tryz.prog 66 #[.pointer (some ⟨p, 0, none⟩)] w fun e w' => e = .returned (.int .i64 16) ∧ w = w' := by
  obtain ⟨g, o, cap, h⟩ := h
  have := lup_ok h.mem
  rw [hov] at this
  exact this
theorem Append_ov (h : HasL X w0 w p b d L) (hov : L.over = true) (v : Value) (hv : ∃ a n c, v = .slice a n c) : Calls Tryz.prog 16 #[.pointer (some ⟨p, 0, none⟩), v] w fun e w' => e = .returned (.int .i64 16) ∧ w = w' := by
  obtain ⟨a, n, c, rfl⟩ := hv
  have HU := Lib.hid (h.upOver hov)
  clear h hov
  go_enter Tryz.func16, Tryz.ntmps16
  go_wp2_with fail
  refine HU.out.mono ?_
  rintro e w1 ⟨rfl, rfl⟩
  go_wp2
  go_ret
  exact ⟨rfl, rfl⟩
theorem Sync_ov (h : HasL X w0 w p b d L) (hov : L.over = true) : Calls Tryz.prog 17 #[.pointer (some ⟨p, 0, none⟩)] w fun e w' => e = .returned (.int .i64 16) ∧ w = w' := by
  have HU := Lib.hid (h.upOver hov)
  clear h hov
  go_enter Tryz.func17, Tryz.ntmps17
  go_wp2_with fail
  refine HU.out.mono ?_
  rintro e w1 ⟨rfl, rfl⟩
  go_wp2
  go_ret
  exact ⟨rfl, rfl⟩
theorem Swap_ov (h : HasL X w0 w p b d L) (hov : L.over = true) (v : Value) (hv : ∃ a n c, v = .slice a n c) : Calls Tryz.prog 29 #[.pointer (some ⟨p, 0, none⟩), v] w fun e w' => e = .returned (.int .i64 16) ∧ w = w' := by
  obtain ⟨a, n, c, rfl⟩ := hv
  have HU := Lib.hid (h.upOver hov)
  clear h hov
  go_enter Tryz.func29, Tryz.ntmps29
  go_wp2_with fail
  refine HU.out.mono ?_
  rintro e w1 ⟨rfl, rfl⟩
  go_wp2
  go_ret
  exact ⟨rfl, rfl⟩
theorem Bk.call {z : Int} {c : Nat} (h : HasL X w0 w p b d L) (hs : Bk z c L) (hz : in64 z) (hc : c ≤ 1000) (hl : L.l.length ≤ 1000) (ht : Tab w0) {v : Value} {es : List Ev} (hv : Evs w v es) :
    Calls Tryz.prog 16 #[.pointer (some ⟨p, 0, none⟩), v] w (DidL X w0 w p b (L.add d es).d (L.add d es).L (.int .i64 (L.add d es).e)) := by
  have h1 := hs.n
  have h2 := hs.bytes
  exact LAppend_ok h ht ⟨by omega, by omega⟩ hs.last hl (by rw [hs.size]; exact hz) hv h.pok
theorem HasL.armed (h : HasL X w0 w p b d L) (k : Int) (hk : k ≤ 9223372036854775807) : Calls Tryz.prog 25 #[.pointer (some ⟨b, 0, none⟩), .int .i64 k] w (DidL X w0 w p b (d.armed k) L (.tuple #[])) :=
  h.step fun _ _ hY => hY.arm k hk rfl
end
end Go.Proofs.YtoikjiojhlfgiaaGreatDoor
