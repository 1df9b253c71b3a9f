/-
  Texts merged by a program of this claim's: ShowBack2, NumbersPlain, ShowT, ShowU, ShowV.
-/
import Derived.Test.YtcmaedoolinijaaGreatDoorM11
import Derived.Lib.Replace
import Derived.Lib.ItoaLen
import Derived.Test.YtcmaedoolinijaaGreatDoorM8
import Derived.Deep.DeepCutAuto
namespace Go.Proofs.YtcmaedoolinijaaGreatDoor
set_option maxRecDepth 100000
open Go Go.Lib
theorem line_ok {c : CodeP} {e : Ev} {s : List UInt8} (h : lineF c e = (s, 0)) : 0 ≤ e.thread ∧ e.thread < c.threads.length ∧ 0 ≤ e.obj ∧ e.obj < c.objs.length ∧ 1 ≤ e.op.toNat ∧ e.op.toNat ≤ 27 ∧ s = join (lineParts c e) [32] := by
  unfold lineF at h
  split at h
  · simp at h
  split at h
  · simp at h
  rename_i h1 h2
  simp only [Prod.mk.injEq, and_true] at h
  exact ⟨by omega, by omega, by omega, by omega, by omega, by omega, h.symm⟩
theorem right_names {c : CodeP} (h : rightS c = true) : ((c.threads.map (·.name)).Nodup ∧ ∀ s ∈ c.threads.map (·.name), ∀ b ∈ s, 32 < b.toNat) ∧ (c.objs.map (·.name)).Nodup ∧ ∀ s ∈ c.objs.map (·.name), ∀ b ∈ s, 32 < b.toNat := by
  simp only [rightS, Bool.and_eq_true] at h
  obtain ⟨a1, -, a2⟩ := named_spec _ _ h.1.2
  obtain ⟨b1, -, b2⟩ := named_spec _ _ h.2
  exact ⟨⟨a1, fun s hs => (a2 s hs).2⟩, b1, fun s hs => (b2 s hs).2⟩
theorem parts_big {c : CodeP} {e : Ev} {s : List UInt8} (hr : rightS c = true) (h : lineF c e = (s, 0)) : ∀ y ∈ lineParts c e, ∀ b ∈ y, 32 < b.toNat := by
  obtain ⟨h1, h2, h3, h4, h5, h6, -⟩ := line_ok h
  obtain ⟨⟨-, r1⟩, -, r2⟩ := right_names hr
  intro y hy b hb
  simp only [lineParts, List.cons_append, List.nil_append, List.mem_cons] at hy
  rcases hy with rfl | rfl | rfl | rfl | hy
  · exact r1 _ (nth_mem h1 (by simpa using h2)) b hb
  · exact op_big _ (nth_mem (by omega) (by rw [show showW.length = 27 from by decide]; omega)) b hb
  · exact r2 _ (nth_mem h3 (by simpa using h4)) b hb
  · exact itoa_big _ b hb
  · split at hy
    · simp at hy
    · simp only [List.mem_singleton] at hy
      subst hy
      exact itoa_big _ b hb
theorem not_big {l : List UInt8} {k : UInt8} (hk : k.toNat ≤ 32) (h : ∀ b ∈ l, 32 < b.toNat) : k ∉ l := fun hm => by have := h k hm; omega
theorem op_back {o : UInt8} (h1 : 1 ≤ o.toNat) (h2 : o.toNat ≤ 27) : UInt8.ofNat (placeN showW (nth showW ((o.toNat : Int) - 1))) = o := by
  have := place_op ⟨o.toNat - 1, by omega⟩
  have e : ((o.toNat - 1 : Nat) : Int) = (o.toNat : Int) - 1 := by omega
  simp only [e] at this
  rw [this, show o.toNat - 1 + 1 = o.toNat from by omega, UInt8.ofNat_toNat]
theorem parse_line {c : CodeP} {e : Ev} {s : List UInt8} (hr : rightS c = true) (he : e.Ok) (h : lineF c e = (s, 0)) : parseE c s = some e := by
  obtain ⟨h1, h2, h3, h4, h5, h6, hs⟩ := line_ok h
  have hb := parts_big hr h
  obtain ⟨⟨r1, -⟩, r2, -⟩ := right_names hr
  have q1 := place_nth r1 h1 (by simpa using h2)
  have q2 := place_nth r2 h3 (by simpa using h4)
  have q3 := op_back h5 h6
  have q4 := num_itoa he.a
  have q5 := num_itoa he.b
  have e1 : Lib.split s [32] = lineParts c e := by
    obtain ⟨x, r, e0⟩ : ∃ x r, lineParts c e = x :: r := ⟨_, _, rfl⟩
    rw [hs, e0]
    exact split_join fun y hy => not_big (by decide) (hb y (by rw [e0]; exact hy))
  unfold parseE
  rw [e1]
  unfold lineParts
  by_cases hz : e.b = 0
  · rw [if_pos hz]
    simp only [List.cons_append, List.nil_append, q1, q2, q3, q4, Option.bind_some]
    have ee : (⟨e.thread, e.op, e.obj, e.a, 0⟩ : Ev) = e := by rw [← hz]
    rw [ee, if_pos h]
  · rw [if_neg hz]
    simp only [List.cons_append, List.nil_append, q1, q2, q3, q4, q5, Option.bind_some]
    rw [if_pos h]
theorem parse_back {c : CodeP} {e : Ev} {s : List UInt8} (h : parseE c s = some e) : lineF c e = (s, 0) := by
  unfold parseE at h
  split at h
  · cases ha : numOf _ with
    | none => rw [ha] at h; simp at h
    | some a =>
      rw [ha] at h
      simp only [Option.bind_some] at h
      split at h
      · rename_i hl; simp only [Option.some.injEq] at h; rw [← h]; exact hl
      · simp at h
  · rename_i f0 f1 f2 f3 f4 _
    cases ha : numOf f3 with
    | none => rw [ha] at h; simp at h
    | some a =>
      cases hb : numOf f4 with
      | none => rw [ha, hb] at h; simp at h
      | some b =>
        rw [ha, hb] at h
        simp only [Option.bind_some] at h
        split at h
        · rename_i hl; simp only [Option.some.injEq] at h; rw [← h]; exact hl
        · simp at h
  · simp at h
def linesS (c : CodeP) (l : List Ev) : List UInt8 := (l.map fun e => (lineF c e).1 ++ [10]).flatten
theorem lines_cons (c : CodeP) (e : Ev) (l : List Ev) : linesS c (e :: l) = (lineF c e).1 ++ 10 :: linesS c l := by simp [linesS]
theorem textF_spec {c : CodeP} : ∀ {l : List Ev} {o t : List UInt8}, textF c o l = (t, 0) ↔ (∀ e ∈ l, (lineF c e).2 = 0) ∧ t = o ++ linesS c l
  | [], o, t => by simp [textF, linesS, eq_comm]
  | e :: l, o, t => by
    rw [textF]
    split
    · rename_i h
      rw [textF_spec, lines_cons]
      simp [h]
    · rename_i h
      simp [h]
theorem line_clean {c : CodeP} {e : Ev} {s : List UInt8} (hr : rightS c = true) (h : lineF c e = (s, 0)) : (10 : UInt8) ∉ s := by
  have hb := parts_big hr h
  rw [(line_ok h).2.2.2.2.2.2]
  obtain ⟨x, r, e1⟩ : ∃ x r, lineParts c e = x :: r := ⟨_, _, rfl⟩
  rw [e1] at hb
  rw [e1, join_cons]
  intro hm
  rcases List.mem_append.1 hm with h1 | h1
  · exact not_big (by decide) (hb x (by simp)) h1
  · simp only [joinTail, List.mem_flatten, List.mem_map] at h1
    obtain ⟨l, ⟨y, hy, rfl⟩, hl⟩ := h1
    rcases List.mem_append.1 hl with h2 | h2
    · simp at h2
    · exact not_big (by decide) (hb y (by simp [hy])) h2
theorem cut_line {x r : List UInt8} (h : (10 : UInt8) ∉ x) : Lib.cut (x ++ 10 :: r) [10] = (x, r, true) := by
  have := index_at (l := r) h
  rw [Lib.cut, this, if_pos (by omega)]
  simp
theorem events_back {c : CodeP} (hr : rightS c = true) : ∀ (l : List Ev) (f : Nat) (o : List Ev) (n : Int), l.length < f → (∀ e ∈ l, e.Ok ∧ (lineF c e).2 = 0) → eventsF c f o n (linesS c l) = (o ++ l, 0, 0)
  | [], f + 1, o, n, _, _ => by simp [eventsF, linesS]
  | e :: l, f + 1, o, n, hf, h => by
    have he := h e (by simp)
    have hl : lineF c e = ((lineF c e).1, 0) := by rw [← he.2]
    rw [lines_cons, eventsF, if_neg (by simp), cut_line (line_clean hr hl)]
    simp only [parse_line hr he.1 hl]
    rw [events_back hr l f _ _ (by simpa using hf) (fun x hx => h x (List.mem_cons_of_mem _ hx))]
    simp
theorem count_lines {c : CodeP} (hr : rightS c = true) : ∀ (l : List Ev), (∀ e ∈ l, (lineF c e).2 = 0) → (linesS c l).count 10 = l.length
  | [], _ => rfl
  | e :: l, h => by
    have hl : lineF c e = ((lineF c e).1, 0) := by rw [← h e (by simp)]
    rw [lines_cons, List.count_append, List.count_eq_zero.2 (line_clean hr hl), List.count_cons, count_lines hr l (fun x hx => h x (List.mem_cons_of_mem _ hx))]
    simp
theorem cut_true {s a b : List UInt8} (h : Lib.cut s [10] = (a, b, true)) : s = a ++ 10 :: b := by
  unfold Lib.cut at h
  split at h
  · rename_i h0
    simp only [Prod.mk.injEq, and_true] at h
    obtain ⟨rfl, rfl⟩ := h
    have hr := index_room s [10] h0
    rcases index_spec s [10] with ⟨h1, _⟩ | ⟨i, h1, h2, h3, _⟩
    · omega
    · rw [h1] at hr ⊢
      simp only [Int.toNat_natCast, List.length_singleton]
      have hi : i < s.length := by simp at hr; omega
      have h4 := (occAt_iff_take s [10] i (by simp; omega)).symm.trans h3
      have h5 : s[i] = 10 := by
        rw [List.drop_eq_getElem_cons hi, List.length_singleton, List.take_succ_cons, List.take_zero] at h4
        exact (List.cons.inj (eq_of_beq h4)).1
      conv => lhs; rw [← List.take_append_drop i s, List.drop_eq_getElem_cons hi, h5]
  · simp at h
theorem events_text {c : CodeP} : ∀ (f : Nat) (o m : List Ev) (n z : Int) (s : List UInt8), s.length < f → eventsF c f o n s = (m, 0, z) → z = 0 ∧ ∃ l, m = o ++ l ∧ s = linesS c l ∧ ∀ e ∈ l, (lineF c e).2 = 0
  | f + 1, o, m, n, z, s, hf, h => by
    rw [eventsF] at h
    split at h
    · rename_i hs
      simp only [Prod.mk.injEq] at h
      exact ⟨h.2.2.symm, [], by simp [h.1], by simp [hs, linesS], by simp⟩
    · rename_i hs
      split at h
      · rename_i e he hc
        have hcut : Lib.cut s [10] = ((Lib.cut s [10]).1, (Lib.cut s [10]).2.1, true) := by rw [← hc]
        have hsp := cut_true hcut
        have hlen := congrArg List.length hsp
        simp only [List.length_append, List.length_cons] at hlen
        obtain ⟨hz, l, rfl, h2, h3⟩ := events_text f _ _ _ _ _ (by omega) h
        have hb := parse_back he
        refine ⟨hz, e :: l, by simp, ?_, ?_⟩
        · rw [lines_cons, hb, ← h2]; exact hsp
        · intro x hx
          rcases List.mem_cons.1 hx with rfl | hx
          · rw [hb]
          · exact h3 x hx
      · simp at h
theorem events_bad {c : CodeP} : ∀ (f : Nat) (o m : List Ev) (n z k : Int) (s : List UInt8), 1 ≤ n → eventsF c f o n s = (m, k, z) → k ≠ 0 → m = [] ∧ k = 133 ∧ 1 ≤ z
  | 0, o, m, n, z, k, s, _, h, hk => by simp only [eventsF, Prod.mk.injEq] at h; exact absurd h.2.1.symm hk
  | f + 1, o, m, n, z, k, s, hn, h, hk => by
    rw [eventsF] at h
    split at h
    · simp only [Prod.mk.injEq] at h; exact absurd h.2.1.symm hk
    · split at h
      · exact events_bad f _ _ _ _ _ _ (by omega) h hk
      · simp only [Prod.mk.injEq] at h
        exact ⟨h.1.symm, h.2.1.symm, by omega⟩
end Go.Proofs.YtcmaedoolinijaaGreatDoor

namespace Go.Proofs.YtcmaedoolinijaaGreatDoor
set_option maxRecDepth 100000
open Go Go.Lib
end Go.Proofs.YtcmaedoolinijaaGreatDoor

namespace Go.Proofs.YtcmaedoolinijaaGreatDoor
open Go Go.RowKit Go.Sort
set_option maxRecDepth 100000
def os24 : List Dcl := [⟨1, [109], 0, [], 1⟩, ⟨9, [118], 0, [], 1⟩]
def ts24 : List Thr := [⟨[97], [], 1⟩]
def t24 : List UInt8 := [109, 117, 116, 101, 120, 32, 109, 59, 32, 118, 97, 114, 32, 118, 32, 48, 59, 32, 116, 104, 114, 101, 97, 100, 32, 97, 32, 123, 32, 125]
theorem some_of_map {α : Type} {o : Option (List Dcl × List Thr × PS)} {a : List Dcl} {b : List Thr} {n : Int} (h : o.map (fun x => (x.1, x.2.1, x.2.2.e)) = some (a, b, n)) : ∃ sf, o = some (a, b, sf) ∧ sf.e = n := by
  cases o with
  | none => simp at h
  | some x =>
    obtain ⟨x1, x2, x3⟩ := x
    simp only [Option.map_some, Option.some.injEq, Prod.mk.injEq] at h
    exact ⟨x3, by rw [h.1, h.2.1], h.2.2⟩
theorem t24_bare : BareT t24 os24 ts24 where
  short := by decide
  parse := some_of_map (α := Unit) (by decide +kernel)
  bodies := by decide
  good0 := by decide +kernel
  good := by decide +kernel
  kinds := by simp [os24, plainK]
  names := by decide +kernel
  threads := by decide +kernel
theorem c24_bare : BareR (bareC os24 ts24) where
  lo := by decide
  lt := by decide
  sound := by simp [bareC, os24, soundK]
  bare := by simp [bareC]
  nt := by decide +kernel
  no := by decide +kernel
theorem named_short : ∀ {l seen : List (List UInt8)}, namedS seen l = true → ∀ s ∈ l, s.length ≤ 40
  | [], _, _, _, h => by simp at h
  | s :: l, seen, h, x, hx => by
    simp only [namedS, Bool.and_eq_true, Bool.not_eq_true', Bool.or_eq_false_iff, decide_eq_false_iff_not] at h
    rcases List.mem_cons.1 hx with rfl | hx
    · omega
    · exact named_short h.2 x hx
theorem show_short : ∀ s ∈ showW, s.length ≤ 10 := by decide +kernel
theorem nth_short {l : List (List UInt8)} {n : Nat} (h : ∀ s ∈ l, s.length ≤ n) (i : Int) : (nth l i).length ≤ n := by
  unfold nth
  cases hi : l[i.toNat]? with
  | none => simp
  | some x => exact h x (List.mem_of_getElem? hi)
theorem join_short {l : List (List UInt8)} {n : Nat} (h : ∀ s ∈ l, s.length ≤ n) : (Lib.join l [32]).length ≤ l.length * (n + 1) := by
  cases l with
  | nil => simp [Lib.join_nil]
  | cons x r =>
    rw [Lib.join_length]
    have hl : ∀ {l : List (List UInt8)}, (∀ s ∈ l, s.length ≤ n) → Lib.lens l ≤ l.length * n := by
      intro l
      induction l with
      | nil => intro _; simp [Lib.lens]
      | cons y l ih =>
        intro h
        have h1 := h y (by simp)
        have h2 := ih (fun s hs => h s (by simp [hs]))
        simp only [Lib.lens, List.map_cons, List.sum_cons, List.length_cons, Nat.add_mul] at h2 ⊢
        omega
    have := hl h
    simp only [List.length_cons, List.length_nil, Nat.mul_add, Nat.add_mul] at this ⊢
    omega
theorem line_short {c : CodeP} (hn : ∀ s ∈ c.threads.map (·.name), s.length ≤ 40) (ho : ∀ s ∈ c.objs.map (·.name), s.length ≤ 40) {e : Ev} (he : e.Ok) : (lineF c e).1.length ≤ 205 := by
  unfold lineF
  split
  · simp
  · split
    · simp
    · have h : ∀ s ∈ lineParts c e, s.length ≤ 40 := by
        intro s hs
        have ha := Lib.itoa_length_le e.a he.a.1 he.a.2
        have hb := Lib.itoa_length_le e.b he.b.1 he.b.2
        have h1 := nth_short hn e.thread
        have h2 := nth_short show_short (e.op.toNat - 1)
        have h3 := nth_short ho e.obj
        unfold lineParts at hs
        simp only [List.mem_append, List.mem_cons, List.not_mem_nil, or_false] at hs
        rcases hs with (rfl | rfl | rfl | rfl) | hs
        · exact h1
        · omega
        · exact h3
        · omega
        · split at hs
          · simp at hs
          · rw [List.mem_singleton] at hs; rw [hs]; omega
      have hj := join_short h
      have hl : (lineParts c e).length ≤ 5 := by unfold lineParts; split <;> simp
      have := Nat.mul_le_mul_right 41 hl
      simp only at hj ⊢
      omega
theorem BareR.line {c : CodeP} (h : BareR c) : ∀ e : Ev, e.Ok → (lineF c e).1.length ≤ 140737488355328 := fun e he => by
  have := line_short (named_short h.nt) (named_short h.no) he
  omega
theorem ex24_line : lineF (bareC os24 ts24) ⟨0, 23, 1, -5, 0⟩ = ([97, 32, 119, 114, 105, 116, 101, 32, 118, 32, 45, 53], 0) := by decide +kernel
theorem ex24_parse : (parseE (bareC os24 ts24) [97, 32, 108, 111, 99, 107, 32, 109, 32, 48]).map (fun e => (e.thread, e.op, e.obj, e.a, e.b)) = some (0, 1, 0, 0, 0) := by decide +kernel
def bad24 : List (List UInt8) := [[97, 32, 108, 111, 99, 107, 32, 109], [97, 32, 108, 111, 99, 107, 32, 109, 32, 48, 48], [97, 32, 108, 111, 99, 107, 32, 109, 32, 48, 32, 48], [98, 32, 108, 111, 99, 107, 32, 109, 32, 48]]
theorem ex24_bad : ∀ s ∈ bad24, (parseE (bareC os24 ts24) s).isNone = true := by decide +kernel
end Go.Proofs.YtcmaedoolinijaaGreatDoor

namespace Go.Proofs.YtcmaedoolinijaaGreatDoor
open Go Go.RowKit Go.Sort
set_option maxRecDepth 100000
set_option maxHeartbeats 6400000
theorem ev24_ok : (⟨0, 23, 1, -5, 0⟩ : Ev).Ok := ⟨by simp [in64], by simp [in64], by simp [in64], by simp [in64]⟩
theorem ev_of_map {o : Option Ev} {t : Int} {p : UInt8} {b x y : Int} (h : o.map (fun e => (e.thread, e.op, e.obj, e.a, e.b)) = some (t, p, b, x, y)) : o = some ⟨t, p, b, x, y⟩ := by
  cases o with
  | none => simp at h
  | some e =>
    obtain ⟨e1, e2, e3, e4, e5⟩ := e
    simp only [Option.map_some, Option.some.injEq, Prod.mk.injEq] at h
    obtain ⟨rfl, rfl, rfl, rfl, rfl⟩ := h
    rfl
theorem idx4_0 (a b c d : ByteArray) (W : World) : (Instr.index 35 (.agg #[.string a, .string b, .string c, .string d]) (.int .i64 0)).run Tryz.prog W = .ok (.string a) W := by kernel_rfl
theorem idx4_1 (a b c d : ByteArray) (W : World) : (Instr.index 35 (.agg #[.string a, .string b, .string c, .string d]) (.int .i64 1)).run Tryz.prog W = .ok (.string b) W := by kernel_rfl
theorem idx4_2 (a b c d : ByteArray) (W : World) : (Instr.index 35 (.agg #[.string a, .string b, .string c, .string d]) (.int .i64 2)).run Tryz.prog W = .ok (.string c) W := by kernel_rfl
theorem idx4_3 (a b c d : ByteArray) (W : World) : (Instr.index 35 (.agg #[.string a, .string b, .string c, .string d]) (.int .i64 3)).run Tryz.prog W = .ok (.string d) W := by kernel_rfl
theorem none_of {o : Option Ev} (h : o.isNone = true) : o = none := by cases o <;> simp_all
theorem pE_none : pE none = .tuple #[.agg #[.int .i64 0, .int .u8 0, .int .i64 0, .int .i64 0, .int .i64 0], .int .i64 133] := rfl
theorem pE_ex : pE (some ⟨0, 1, 0, 0, 0⟩) = .tuple #[.agg #[.int .i64 0, .int .u8 1, .int .i64 0, .int .i64 0, .int .i64 0], .int .i64 0] := rfl
theorem awake24_ok {w : World} (hT : STab w) : Calls Tryz.prog 9 #[] w fun z w' => z = .returned (.bool true) ∧ Nw w w' := by
  have HT := Lib.hid (fun (W : World) (hW : Nw w W) => hT.nw hW)
  have MD := Lib.hid (Made_ok hT.mx t24_bare)
  clear hT
  unfold t24 at MD
  go_enter Tryz.func9, Tryz.ntmps9
  go_wp2_with fail
  refine MD.out.mono ?_
  rintro z w1 ⟨y0, y1, rfl, hC, n1⟩
  clear MD
  obtain ⟨a0, c0, a1, c1, rfl, rfl, -, -⟩ := hC.lens
  have HC := Lib.hid (fun (W : World) (hW : Nw w1 W) => hC.nw hW)
  have N1 := Lib.hid n1
  have hno : (bareC os24 ts24).objs.length = 2 := rfl
  have hnt : (bareC os24 ts24).threads.length = 1 := rfl
  rw [hno, hnt] at HC ⊢
  clear hC n1 hno hnt
  have HR := Lib.hid (fun (W : World) (hW : Nw w1 W) => sRight_ok (HC.out W hW) c24_bare)
  have LN := Lib.hid (fun (W : World) (hW : Nw w1 W) => Line_ok (e := ⟨0, 23, 1, -5, 0⟩) (HT.out W (N1.out.trans hW)) (HC.out W hW) ev24_ok (c24_bare.line _ ev24_ok) (fun W' hW' => HR.out W' (hW.trans hW')))
  have PS := Lib.hid (fun (W : World) (hW : Nw w1 W) (s : List UInt8) (hs : s.length < 4294967281) => ParseTxt_ok (HT.out W (N1.out.trans hW)) (HC.out W hW) hs c24_bare.line (fun W' hW' => HR.out W' (hW.trans hW')))
  rw [ex24_line] at LN
  go_upto_region 2 with fail
  obtain ⟨w2, hw2⟩ : ∃ w2, w1.alloc (.cells #[.slice a0 2 c0, .slice a1 1 c1] 25) = w2 := ⟨_, rfl⟩
  obtain ⟨cb, hcb⟩ : ∃ cb, w1.heap.size = cb := ⟨_, rfl⟩
  have PB : Hid (w2.heap[cb]? = some (.cells #[.slice a0 2 c0, .slice a1 1 c1] 25 (0, 0))) := Lib.hid (by rw [← hw2, ← hcb]; exact heap_alloc_new w1 _)
  have N2 : Hid (Nw w1 w2) := Lib.hid (by rw [← hw2]; exact (Nw.refl w1).alloc _)
  rw [hw2, hcb]
  clear hw2 hcb
  obtain ⟨p0, p1, pf⟩ := box2 PB.out
  have LN2 := LN.out w2 N2.out
  unfold evV evA at LN2
  simp only [show ((23 : UInt8).toNat : Int) = 23 from rfl] at LN2
  have L2 := Lib.hid LN2
  clear LN2 LN
  go_wp2_with fail
  refine L2.out.mono ?_
  rintro z w3 ⟨rfl, n3⟩
  have N3 := Lib.hid (N2.out.trans n3)
  have P3 := Lib.hid (n3.at_ PB.out)
  clear n3 PB p0 p1 pf L2
  obtain ⟨p0, p1, pf⟩ := box2 P3.out
  have PS3 := Lib.hid (PS.out w3 N3.out [97, 32, 108, 111, 99, 107, 32, 109, 32, 48] (by decide))
  rw [ev_of_map ex24_parse, pE_ex] at PS3
  go_wp2_with fail
  refine PS3.out.mono ?_
  rintro z w4 ⟨rfl, n4⟩
  have N4 := Lib.hid (N3.out.trans n4)
  have P4 := Lib.hid (n4.at_ P3.out)
  clear n4 P3 p0 p1 pf PS3
  go_upto_region 4 with fail
  obtain ⟨w5, hw5⟩ : ∃ w5, w4.alloc (.cells #[.int .i64 0, .int .u8 1, .int .i64 0, .int .i64 0, .int .i64 0] 29) = w5 := ⟨_, rfl⟩
  obtain ⟨eb, heb⟩ : ∃ eb, w4.heap.size = eb := ⟨_, rfl⟩
  have EB : Hid (w5.heap[eb]? = some (.cells #[.int .i64 0, .int .u8 1, .int .i64 0, .int .i64 0, .int .i64 0] 29 (0, 0))) := Lib.hid (by rw [← hw5, ← heb]; exact heap_alloc_new w4 _)
  have n5 : Nw w4 w5 := by rw [← hw5]; exact (Nw.refl w4).alloc _
  have N5 := Lib.hid (N4.out.trans n5)
  have P5 := Lib.hid (n5.at_ P4.out)
  rw [hw5, heb]
  clear hw5 heb n5 P4 N4
  obtain ⟨e0, e1, e2, e3, e4, ef⟩ := box5 EB.out
  go_wp2_with fail
  go_loopw [38] (fun v wr => ∃ k : Nat, k ≤ 4 ∧ v = .int .i64 k ∧ Nw w5 wr) (fun v _ => 4 - (intOf v).toNat)
  case atStart => exact ⟨0, by omega, rfl, Nw.refl _⟩
  case round =>
    obtain ⟨k, hk, rfl, hw⟩ := hrel
    have HW := Lib.hid hw
    clear hw e0 e1 e2 e3 e4 ef EB
    by_cases hkn : k < 4
    · have PB := Lib.hid (HW.out.at_ P5.out)
      obtain ⟨p0, p1, pf⟩ := box2 PB.out
      obtain rfl | rfl | rfl | rfl : k = 0 ∨ k = 1 ∨ k = 2 ∨ k = 3 := by omega
      · have PS5 := PS.out wr (N5.out.trans HW.out) [97, 32, 108, 111, 99, 107, 32, 109] (by decide)
        rw [none_of (ex24_bad [97, 32, 108, 111, 99, 107, 32, 109] (by decide)), pE_none] at PS5
        have PS6 := Lib.hid PS5
        clear PS5
        have ix := idx4_0
        go_wp2_with fail
        refine PS6.out.mono ?_
        rintro z w6 ⟨rfl, n6⟩
        have N6 := Lib.hid (HW.out.trans n6)
        clear n6 PS6 p0 p1 pf PB ix
        go_wp2_with fail
        exact ⟨⟨1, by omega, rfl, N6.out.alloc _⟩, by simp [intOf]⟩
      · have PS5 := PS.out wr (N5.out.trans HW.out) [97, 32, 108, 111, 99, 107, 32, 109, 32, 48, 48] (by decide)
        rw [none_of (ex24_bad [97, 32, 108, 111, 99, 107, 32, 109, 32, 48, 48] (by decide)), pE_none] at PS5
        have PS6 := Lib.hid PS5
        clear PS5
        have ix := idx4_1
        go_wp2_with fail
        refine PS6.out.mono ?_
        rintro z w6 ⟨rfl, n6⟩
        have N6 := Lib.hid (HW.out.trans n6)
        clear n6 PS6 p0 p1 pf PB ix
        go_wp2_with fail
        exact ⟨⟨2, by omega, rfl, N6.out.alloc _⟩, by simp [intOf]⟩
      · have PS5 := PS.out wr (N5.out.trans HW.out) [97, 32, 108, 111, 99, 107, 32, 109, 32, 48, 32, 48] (by decide)
        rw [none_of (ex24_bad [97, 32, 108, 111, 99, 107, 32, 109, 32, 48, 32, 48] (by decide)), pE_none] at PS5
        have PS6 := Lib.hid PS5
        clear PS5
        have ix := idx4_2
        go_wp2_with fail
        refine PS6.out.mono ?_
        rintro z w6 ⟨rfl, n6⟩
        have N6 := Lib.hid (HW.out.trans n6)
        clear n6 PS6 p0 p1 pf PB ix
        go_wp2_with fail
        exact ⟨⟨3, by omega, rfl, N6.out.alloc _⟩, by simp [intOf]⟩
      · have PS5 := PS.out wr (N5.out.trans HW.out) [98, 32, 108, 111, 99, 107, 32, 109, 32, 48] (by decide)
        rw [none_of (ex24_bad [98, 32, 108, 111, 99, 107, 32, 109, 32, 48] (by decide)), pE_none] at PS5
        have PS6 := Lib.hid PS5
        clear PS5
        have ix := idx4_3
        go_wp2_with fail
        refine PS6.out.mono ?_
        rintro z w6 ⟨rfl, n6⟩
        have N6 := Lib.hid (HW.out.trans n6)
        clear n6 PS6 p0 p1 pf PB ix
        go_wp2_with fail
        exact ⟨⟨4, by omega, rfl, N6.out.alloc _⟩, by simp [intOf]⟩
    · have q : decide ((k : Int) < 4) = false := by simp; omega
      go_wp2_with fail
      go_ret
      exact ⟨rfl, N1.out.trans (N5.out.trans HW.out)⟩
end Go.Proofs.YtcmaedoolinijaaGreatDoor

namespace Go.Proofs.YtcmaedoolinijaaGreatDoor
open Go Go.RowKit Go.Sort
set_option maxRecDepth 100000
set_option maxHeartbeats 6400000
end Go.Proofs.YtcmaedoolinijaaGreatDoor
