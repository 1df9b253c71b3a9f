/-
  Texts merged by a program of this claim's: ShowBack2, NumbersPlain, ShowT, ShowU, ShowV.
-/
import Derived.Test.YtcmaedoolinijaaGreatDoorM11
import Derived.Lib.Replace
import Derived.Lib.ItoaLen
import Derived.Test.YtcmaedoolinijaaGreatDoorM8
import Derived.Deep.DeepCutAuto
namespace Go.Proofs.YtcmaedoolinijaaGreatDoor
set_option maxRecDepth 100000
open Go Go.Lib
theorem line_ok {c : CodeP} {e : Ev} {s : List UInt8} (h : lineF c e = (s, 0)) : 0 ≤ e.thread ∧ e.thread < c.threads.length ∧ 0 ≤ e.obj ∧ e.obj < c.objs.length ∧ 1 ≤ e.op.toNat ∧ e.op.toNat ≤ 27 ∧ s = join (lineParts c e) [32] := by
  unfold lineF at h
  split at h
  · simp at h
  split at h
  · simp at h
  rename_i h1 h2
  simp only [Prod.mk.injEq, and_true] at h
  exact ⟨by omega, by omega, by omega, by omega, by omega, by omega, h.symm⟩
theorem right_names {c : CodeP} (h : rightS c = true) : ((c.threads.map (·.name)).Nodup ∧ ∀ s ∈ c.threads.map (·.name), ∀ b ∈ s, 32 < b.toNat) ∧ (c.objs.map (·.name)).Nodup ∧ ∀ s ∈ c.objs.map (·.name), ∀ b ∈ s, 32 < b.toNat := by
  simp only [rightS, Bool.and_eq_true] at h
  obtain ⟨a1, -, a2⟩ := named_spec _ _ h.1.2
  obtain ⟨b1, -, b2⟩ := named_spec _ _ h.2
  exact ⟨⟨a1, fun s hs => (a2 s hs).2⟩, b1, fun s hs => (b2 s hs).2⟩
theorem parts_big {c : CodeP} {e : Ev} {s : List UInt8} (hr : rightS c = true) (h : lineF c e = (s, 0)) : ∀ y ∈ lineParts c e, ∀ b ∈ y, 32 < b.toNat := by
  obtain ⟨h1, h2, h3, h4, h5, h6, -⟩ := line_ok h
  obtain ⟨⟨-, r1⟩, -, r2⟩ := right_names hr
  intro y hy b hb
  simp only [lineParts, List.cons_append, List.nil_append, List.mem_cons] at hy
  rcases hy with rfl | rfl | rfl | rfl | hy
  · exact r1 _ (nth_mem h1 (by simpa using h2)) b hb
  · exact op_big _ (nth_mem (by omega) (by rw [show showW.length = 27 from by decide]; omega)) b hb
  · exact r2 _ (nth_mem h3 (by simpa using h4)) b hb
  · exact itoa_big _ b hb
  · split at hy
    · simp at hy
    · simp only [List.mem_singleton] at hy
      subst hy
      exact itoa_big _ b hb
theorem not_big {l : List UInt8} {k : UInt8} (hk : k.toNat ≤ 32) (h : ∀ b ∈ l, 32 < b.toNat) : k ∉ l := fun hm => by have := h k hm; omega
theorem op_back {o : UInt8} (h1 : 1 ≤ o.toNat) (h2 : o.toNat ≤ 27) : UInt8.ofNat (placeN showW (nth showW ((o.toNat : Int) - 1))) = o := by
  have := place_op ⟨o.toNat - 1, by omega⟩
  have e : ((o.toNat - 1 : Nat) : Int) = (o.toNat : Int) - 1 := by omega
  simp only [e] at this
  rw [this, show o.toNat - 1 + 1 = o.toNat from by omega, UInt8.ofNat_toNat]
theorem parse_line {c : CodeP} {e : Ev} {s : List UInt8} (hr : rightS c = true) (he : e.Ok) (h : lineF c e = (s, 0)) : parseE c s = some e := by
  obtain ⟨h1, h2, h3, h4, h5, h6, hs⟩ := line_ok h
  have hb := parts_big hr h
  obtain ⟨⟨r1, -⟩, r2, -⟩ := right_names hr
  have q1 := place_nth r1 h1 (by simpa using h2)
  have q2 := place_nth r2 h3 (by simpa using h4)
  have q3 := op_back h5 h6
  have q4 := num_itoa he.a
  have q5 := num_itoa he.b
  have e1 : Lib.split s [32] = lineParts c e := by
    obtain ⟨x, r, e0⟩ : ∃ x r, lineParts c e = x :: r := ⟨_, _, rfl⟩
    rw [hs, e0]
    exact split_join fun y hy => not_big (by decide) (hb y (by rw [e0]; exact hy))
  unfold parseE
  rw [e1]
  unfold lineParts
  by_cases hz : e.b = 0
  · rw [if_pos hz]
    simp only [List.cons_append, List.nil_append, q1, q2, q3, q4, Option.bind_some]
    have ee : (⟨e.thread, e.op, e.obj, e.a, 0⟩ : Ev) = e := by rw [← hz]
    rw [ee, if_pos h]
  · rw [if_neg hz]
    simp only [List.cons_append, List.nil_append, q1, q2, q3, q4, q5, Option.bind_some]
    rw [if_pos h]
theorem parse_back {c : CodeP} {e : Ev} {s : List UInt8} (h : parseE c s = some e) : lineF c e = (s, 0) := by
  unfold parseE at h
  split at h
  · cases ha : numOf _ with
    | none => rw [ha] at h; simp at h
    | some a =>
      rw [ha] at h
      simp only [Option.bind_some] at h
      split at h
      · rename_i hl; simp only [Option.some.injEq] at h; rw [← h]; exact hl
      · simp at h
  · rename_i f0 f1 f2 f3 f4 _
    cases ha : numOf f3 with
    | none => rw [ha] at h; simp at h
    | some a =>
      cases hb : numOf f4 with
      | none => rw [ha, hb] at h; simp at h
      | some b =>
        rw [ha, hb] at h
        simp only [Option.bind_some] at h
        split at h
        · rename_i hl; simp only [Option.some.injEq] at h; rw [← h]; exact hl
        · simp at h
  · simp at h
end Go.Proofs.YtcmaedoolinijaaGreatDoor

namespace Go.Proofs.YtcmaedoolinijaaGreatDoor
set_option maxRecDepth 100000
open Go Go.Lib
def c24n : CodeP := madeF text24n
theorem c24n_right : rightS c24n = true := by decide +kernel
theorem c24n_t : c24n.threads.map (·.name) = [[116]] := by decide +kernel
theorem c24n_o : c24n.objs.map (·.name) = [[118]] := by decide +kernel
def aheadS : List UInt8 := [116, 32, 114, 101, 97, 100, 32, 118, 32]
def numsS (a b : Int) : List UInt8 := itoa a ++ (if b = 0 then [] else 32 :: itoa b)
theorem line24n {a b : Int} : lineF c24n ⟨0, 22, 0, a, b⟩ = (aheadS ++ numsS a b, 0) := by
  have ht : c24n.threads.length = 1 := by simpa using congrArg List.length c24n_t
  have ho : c24n.objs.length = 1 := by simpa using congrArg List.length c24n_o
  have hop : nth showW ((22 : UInt8).toNat - 1) = [114, 101, 97, 100] := by decide +kernel
  unfold lineF
  rw [ht, ho, if_neg (by simp), if_neg (by simp)]
  simp only [lineParts, c24n_t, c24n_o, hop]
  simp only [nth, Prod.mk.injEq, and_true]
  unfold numsS aheadS
  split <;> simp [join_cons, joinTail]
theorem replace24n {r bad : List UInt8} (hb : bad ≠ []) : Lib.replace (aheadS ++ r) [118, 32] ([118, 32] ++ bad) 1 = aheadS ++ bad ++ r := by
  have hi : index (aheadS ++ r) [118, 32] = 7 := by simp [aheadS, index, List.isPrefixOf]
  have hne : ¬ (([118, 32] : List UInt8) == [118, 32] ++ bad) = true := by simpa using Ne.symm hb
  have hc := count_hit (s := aheadS ++ r) (sub := [118, 32]) (i := 7) (by simp) hi
  rw [Lib.replace, if_neg hne, replaceNum, if_neg (by omega)]
  show replaceK _ _ 1 _ = _
  rw [replaceK, hi, if_neg (by decide), replaceK]
  simp [aheadS]
theorem itoa_nil (n : Int) : itoa n ≠ [] := by
  unfold itoa; split
  · simp
  · exact digits_nil _
theorem digits_nought (u : Nat) : ∀ r, decDigits u = 48 :: r → u = 0 ∧ r = [] := by
  induction u using Nat.strongRecOn with
  | _ u ih =>
    intro r h
    rw [decDigits] at h
    split at h
    · rename_i hu
      have h1 := (List.cons.inj h).1
      have h2 := (List.cons.inj h).2
      have := congrArg UInt8.toNat h1
      rw [UInt8.toNat_ofNat'] at this
      simp at this
      exact ⟨by omega, h2.symm⟩
    · rename_i hu
      cases hd : decDigits (u / 10) with
      | nil => exact absurd hd (digits_nil _)
      | cons c l =>
        rw [hd, List.cons_append] at h
        have h1 := (List.cons.inj h).1
        subst h1
        have := (ih (u / 10) (by omega) l hd).1
        omega
theorem itoa_nought {n : Int} {r : List UInt8} (h : itoa n = 48 :: r) : r = [] := by
  unfold itoa at h
  split at h
  · have := (List.cons.inj h).1; simp at this
  · exact (digits_nought _ _ h).2
theorem itoa_plus {n : Int} {r : List UInt8} : itoa n ≠ 43 :: r := by
  intro h
  unfold itoa at h
  split at h
  · have := (List.cons.inj h).1; simp at this
  · have := digits_dig n.toNat 43 (by rw [h]; simp)
    simp at this
theorem join_inj {c : UInt8} {x y : List UInt8} {r q : List (List UInt8)} (h : ∀ z ∈ x :: r, c ∉ z) (h' : ∀ z ∈ y :: q, c ∉ z) (e : join (x :: r) [c] = join (y :: q) [c]) : x :: r = y :: q := by
  rw [← split_join h, e, split_join h']
theorem spoilt24n {a b : Int} {bad : List UInt8} {y : Ev} (h : lineF c24n y = (aheadS ++ bad ++ numsS a b, 0)) (hb : bad = [43] ∨ bad = [48] ∨ bad = [32]) : False := by
  have hB := parts_big c24n_right h
  have hj := (line_ok h).2.2.2.2.2.2
  have h32 : ∀ z ∈ lineParts c24n y, (32 : UInt8) ∉ z := fun z hz => not_big (by decide) (hB z hz)
  have n1 : (32 : UInt8) ∉ itoa a := not_big (by decide) (itoa_big a)
  have n2 : (32 : UInt8) ∉ itoa b := not_big (by decide) (itoa_big b)
  have hx : ∃ x r, lineParts c24n y = x :: r := ⟨_, _, rfl⟩
  obtain ⟨x0, r0, e0⟩ := hx
  have hl : (aheadS ++ bad ++ numsS a b) = join ([116] :: [114, 101, 97, 100] :: [118] :: ((if bad = [32] then [[], itoa a] else [bad ++ itoa a]) ++ (if b = 0 then [] else [itoa b]))) [32] := by
    unfold numsS aheadS
    rcases hb with rfl | rfl | rfl <;> by_cases hz : b = 0 <;> simp [hz, join_cons, joinTail]
  rw [hl, e0] at hj
  rw [e0] at h32
  have e1 := join_inj (by
    intro z hz
    rcases hb with rfl | rfl | rfl <;> by_cases hz0 : b = 0 <;> simp [hz0] at hz <;> rcases hz with rfl | rfl | rfl | hz <;> (try decide) <;> (try (rcases hz with rfl | hz)) <;> (try subst hz) <;> (try simp_all) <;> (try (rcases hz with rfl | rfl <;> assumption))) h32 hj
  rw [← e0] at e1
  simp only [lineParts, List.cons_append, List.nil_append, List.cons.injEq] at e1
  have e2 := e1.2.2.2
  rcases hb with rfl | rfl | rfl
  · simp at e2
    exact itoa_plus e2.1.symm
  · simp at e2
    exact itoa_nil a (itoa_nought e2.1.symm)
  · simp at e2
    exact itoa_nil _ e2.1
theorem numbers24n {a b : Int} (ha : in64 a) (hb : in64 b) : parseE c24n (aheadS ++ numsS a b) = some ⟨0, 22, 0, a, b⟩ ∧ ∀ bad, bad = [43] ∨ bad = [48] ∨ bad = [32] ∨ bad = [45] → ∀ y, parseE c24n (aheadS ++ bad ++ numsS a b) = some y → y ≠ ⟨0, 22, 0, a, b⟩ ∧ bad = [45] := by
  refine ⟨parse_line c24n_right ⟨by simp [in64], by simp [in64], ha, hb⟩ line24n, fun bad hbad y hy => ?_⟩
  have h := parse_back hy
  refine ⟨?_, ?_⟩
  · rintro rfl
    rw [line24n] at h
    have := congrArg (fun x : List UInt8 × Int => x.1.length) h
    rcases hbad with rfl | rfl | rfl | rfl <;> simp at this
  · rcases hbad with h1 | h1 | h1 | h1
    · exact (spoilt24n h (.inl h1)).elim
    · exact (spoilt24n h (.inr (.inl h1))).elim
    · exact (spoilt24n h (.inr (.inr h1))).elim
    · exact h1
end Go.Proofs.YtcmaedoolinijaaGreatDoor

namespace Go.Proofs.YtcmaedoolinijaaGreatDoor
open Go Go.RowKit Go.Sort
set_option maxRecDepth 100000
def os24 : List Dcl := [⟨1, [109], 0, [], 1⟩, ⟨9, [118], 0, [], 1⟩]
def ts24 : List Thr := [⟨[97], [], 1⟩]
def os24n : List Dcl := [⟨9, [118], 0, [], 1⟩]
def ts24n : List Thr := [⟨[116], [], 1⟩]
def t24 : List UInt8 := [109, 117, 116, 101, 120, 32, 109, 59, 32, 118, 97, 114, 32, 118, 32, 48, 59, 32, 116, 104, 114, 101, 97, 100, 32, 97, 32, 123, 32, 125]
def t24n : List UInt8 := [118, 97, 114, 32, 118, 32, 48, 59, 32, 116, 104, 114, 101, 97, 100, 32, 116, 32, 123, 32, 125]
theorem some_of_map {α : Type} {o : Option (List Dcl × List Thr × PS)} {a : List Dcl} {b : List Thr} {n : Int} (h : o.map (fun x => (x.1, x.2.1, x.2.2.e)) = some (a, b, n)) : ∃ sf, o = some (a, b, sf) ∧ sf.e = n := by
  cases o with
  | none => simp at h
  | some x =>
    obtain ⟨x1, x2, x3⟩ := x
    simp only [Option.map_some, Option.some.injEq, Prod.mk.injEq] at h
    exact ⟨x3, by rw [h.1, h.2.1], h.2.2⟩
theorem t24_bare : BareT t24 os24 ts24 where
  short := by decide
  parse := some_of_map (α := Unit) (by decide +kernel)
  bodies := by decide
  good0 := by decide +kernel
  good := by decide +kernel
  kinds := by simp [os24, plainK]
  names := by decide +kernel
  threads := by decide +kernel
theorem t24n_bare : BareT t24n os24n ts24n where
  short := by decide
  parse := some_of_map (α := Unit) (by decide +kernel)
  bodies := by decide
  good0 := by decide +kernel
  good := by decide +kernel
  kinds := by simp [os24n, plainK]
  names := by decide +kernel
  threads := by decide +kernel
theorem c24_bare : BareR (bareC os24 ts24) where
  lo := by decide
  lt := by decide
  sound := by simp [bareC, os24, soundK]
  bare := by simp [bareC]
  nt := by decide +kernel
  no := by decide +kernel
theorem c24n_bare : BareR (bareC os24n ts24n) where
  lo := by decide
  lt := by decide
  sound := by simp [bareC, os24n, soundK]
  bare := by simp [bareC]
  nt := by decide +kernel
  no := by decide +kernel
theorem c24n_is : c24n = bareC os24n ts24n := by kernel_rfl
theorem named_short : ∀ {l seen : List (List UInt8)}, namedS seen l = true → ∀ s ∈ l, s.length ≤ 40
  | [], _, _, _, h => by simp at h
  | s :: l, seen, h, x, hx => by
    simp only [namedS, Bool.and_eq_true, Bool.not_eq_true', Bool.or_eq_false_iff, decide_eq_false_iff_not] at h
    rcases List.mem_cons.1 hx with rfl | hx
    · omega
    · exact named_short h.2 x hx
theorem show_short : ∀ s ∈ showW, s.length ≤ 10 := by decide +kernel
theorem nth_short {l : List (List UInt8)} {n : Nat} (h : ∀ s ∈ l, s.length ≤ n) (i : Int) : (nth l i).length ≤ n := by
  unfold nth
  cases hi : l[i.toNat]? with
  | none => simp
  | some x => exact h x (List.mem_of_getElem? hi)
theorem join_short {l : List (List UInt8)} {n : Nat} (h : ∀ s ∈ l, s.length ≤ n) : (Lib.join l [32]).length ≤ l.length * (n + 1) := by
  cases l with
  | nil => simp [Lib.join_nil]
  | cons x r =>
    rw [Lib.join_length]
    have hl : ∀ {l : List (List UInt8)}, (∀ s ∈ l, s.length ≤ n) → Lib.lens l ≤ l.length * n := by
      intro l
      induction l with
      | nil => intro _; simp [Lib.lens]
      | cons y l ih =>
        intro h
        have h1 := h y (by simp)
        have h2 := ih (fun s hs => h s (by simp [hs]))
        simp only [Lib.lens, List.map_cons, List.sum_cons, List.length_cons, Nat.add_mul] at h2 ⊢
        omega
    have := hl h
    simp only [List.length_cons, List.length_nil, Nat.mul_add, Nat.add_mul] at this ⊢
    omega
theorem line_short {c : CodeP} (hn : ∀ s ∈ c.threads.map (·.name), s.length ≤ 40) (ho : ∀ s ∈ c.objs.map (·.name), s.length ≤ 40) {e : Ev} (he : e.Ok) : (lineF c e).1.length ≤ 205 := by
  unfold lineF
  split
  · simp
  · split
    · simp
    · have h : ∀ s ∈ lineParts c e, s.length ≤ 40 := by
        intro s hs
        have ha := Lib.itoa_length_le e.a he.a.1 he.a.2
        have hb := Lib.itoa_length_le e.b he.b.1 he.b.2
        have h1 := nth_short hn e.thread
        have h2 := nth_short show_short (e.op.toNat - 1)
        have h3 := nth_short ho e.obj
        unfold lineParts at hs
        simp only [List.mem_append, List.mem_cons, List.not_mem_nil, or_false] at hs
        rcases hs with (rfl | rfl | rfl | rfl) | hs
        · exact h1
        · omega
        · exact h3
        · omega
        · split at hs
          · simp at hs
          · rw [List.mem_singleton] at hs; rw [hs]; omega
      have hj := join_short h
      have hl : (lineParts c e).length ≤ 5 := by unfold lineParts; split <;> simp
      have := Nat.mul_le_mul_right 41 hl
      simp only at hj ⊢
      omega
theorem BareR.line {c : CodeP} (h : BareR c) : ∀ e : Ev, e.Ok → (lineF c e).1.length ≤ 140737488355328 := fun e he => by
  have := line_short (named_short h.nt) (named_short h.no) he
  omega
theorem ex24_line : lineF (bareC os24 ts24) ⟨0, 23, 1, -5, 0⟩ = ([97, 32, 119, 114, 105, 116, 101, 32, 118, 32, 45, 53], 0) := by decide +kernel
theorem ex24_parse : (parseE (bareC os24 ts24) [97, 32, 108, 111, 99, 107, 32, 109, 32, 48]).map (fun e => (e.thread, e.op, e.obj, e.a, e.b)) = some (0, 1, 0, 0, 0) := by decide +kernel
def bad24 : List (List UInt8) := [[97, 32, 108, 111, 99, 107, 32, 109], [97, 32, 108, 111, 99, 107, 32, 109, 32, 48, 48], [97, 32, 108, 111, 99, 107, 32, 109, 32, 48, 32, 48], [98, 32, 108, 111, 99, 107, 32, 109, 32, 48]]
theorem ex24_bad : ∀ s ∈ bad24, (parseE (bareC os24 ts24) s).isNone = true := by decide +kernel
end Go.Proofs.YtcmaedoolinijaaGreatDoor

namespace Go.Proofs.YtcmaedoolinijaaGreatDoor
open Go Go.RowKit Go.Sort
set_option maxRecDepth 100000
set_option maxHeartbeats 6400000
theorem ev24_ok : (⟨0, 23, 1, -5, 0⟩ : Ev).Ok := ⟨by simp [in64], by simp [in64], by simp [in64], by simp [in64]⟩
theorem ev_of_map {o : Option Ev} {t : Int} {p : UInt8} {b x y : Int} (h : o.map (fun e => (e.thread, e.op, e.obj, e.a, e.b)) = some (t, p, b, x, y)) : o = some ⟨t, p, b, x, y⟩ := by
  cases o with
  | none => simp at h
  | some e =>
    obtain ⟨e1, e2, e3, e4, e5⟩ := e
    simp only [Option.map_some, Option.some.injEq, Prod.mk.injEq] at h
    obtain ⟨rfl, rfl, rfl, rfl, rfl⟩ := h
    rfl
theorem idx4_0 (a b c d : ByteArray) (W : World) : (Instr.index 35 (.agg #[.string a, .string b, .string c, .string d]) (.int .i64 0)).run Tryz.prog W = .ok (.string a) W := by kernel_rfl
theorem idx4_1 (a b c d : ByteArray) (W : World) : (Instr.index 35 (.agg #[.string a, .string b, .string c, .string d]) (.int .i64 1)).run Tryz.prog W = .ok (.string b) W := by kernel_rfl
theorem idx4_2 (a b c d : ByteArray) (W : World) : (Instr.index 35 (.agg #[.string a, .string b, .string c, .string d]) (.int .i64 2)).run Tryz.prog W = .ok (.string c) W := by kernel_rfl
theorem idx4_3 (a b c d : ByteArray) (W : World) : (Instr.index 35 (.agg #[.string a, .string b, .string c, .string d]) (.int .i64 3)).run Tryz.prog W = .ok (.string d) W := by kernel_rfl
theorem none_of {o : Option Ev} (h : o.isNone = true) : o = none := by cases o <;> simp_all
theorem pE_none : pE none = .tuple #[.agg #[.int .i64 0, .int .u8 0, .int .i64 0, .int .i64 0, .int .i64 0], .int .i64 133] := rfl
theorem pE_ex : pE (some ⟨0, 1, 0, 0, 0⟩) = .tuple #[.agg #[.int .i64 0, .int .u8 1, .int .i64 0, .int .i64 0, .int .i64 0], .int .i64 0] := rfl
theorem awake24_ok {w : World} (hT : STab w) : Calls Tryz.prog 9 #[] w fun z w' => z = .returned (.bool true) ∧ Nw w w' := by
  have HT := Lib.hid (fun (W : World) (hW : Nw w W) => hT.nw hW)
  have MD := Lib.hid (Made_ok hT.mx t24_bare)
  clear hT
  unfold t24 at MD
  go_enter Tryz.func9, Tryz.ntmps9
  go_wp2_with fail
  refine MD.out.mono ?_
  rintro z w1 ⟨y0, y1, rfl, hC, n1⟩
  clear MD
  obtain ⟨a0, c0, a1, c1, rfl, rfl, -, -⟩ := hC.lens
  have HC := Lib.hid (fun (W : World) (hW : Nw w1 W) => hC.nw hW)
  have N1 := Lib.hid n1
  have hno : (bareC os24 ts24).objs.length = 2 := rfl
  have hnt : (bareC os24 ts24).threads.length = 1 := rfl
  rw [hno, hnt] at HC ⊢
  clear hC n1 hno hnt
  have HR := Lib.hid (fun (W : World) (hW : Nw w1 W) => sRight_ok (HC.out W hW) c24_bare)
  have LN := Lib.hid (fun (W : World) (hW : Nw w1 W) => Line_ok (e := ⟨0, 23, 1, -5, 0⟩) (HT.out W (N1.out.trans hW)) (HC.out W hW) ev24_ok (c24_bare.line _ ev24_ok) (fun W' hW' => HR.out W' (hW.trans hW')))
  have PS := Lib.hid (fun (W : World) (hW : Nw w1 W) (s : List UInt8) (hs : s.length < 4294967281) => ParseTxt_ok (HT.out W (N1.out.trans hW)) (HC.out W hW) hs c24_bare.line (fun W' hW' => HR.out W' (hW.trans hW')))
  rw [ex24_line] at LN
  go_upto_region 2 with fail
  obtain ⟨w2, hw2⟩ : ∃ w2, w1.alloc (.cells #[.slice a0 2 c0, .slice a1 1 c1] 25) = w2 := ⟨_, rfl⟩
  obtain ⟨cb, hcb⟩ : ∃ cb, w1.heap.size = cb := ⟨_, rfl⟩
  have PB : Hid (w2.heap[cb]? = some (.cells #[.slice a0 2 c0, .slice a1 1 c1] 25 (0, 0))) := Lib.hid (by rw [← hw2, ← hcb]; exact heap_alloc_new w1 _)
  have N2 : Hid (Nw w1 w2) := Lib.hid (by rw [← hw2]; exact (Nw.refl w1).alloc _)
  rw [hw2, hcb]
  clear hw2 hcb
  obtain ⟨p0, p1, pf⟩ := box2 PB.out
  have LN2 := LN.out w2 N2.out
  unfold evV evA at LN2
  simp only [show ((23 : UInt8).toNat : Int) = 23 from rfl] at LN2
  have L2 := Lib.hid LN2
  clear LN2 LN
  go_wp2_with fail
  refine L2.out.mono ?_
  rintro z w3 ⟨rfl, n3⟩
  have N3 := Lib.hid (N2.out.trans n3)
  have P3 := Lib.hid (n3.at_ PB.out)
  clear n3 PB p0 p1 pf L2
  obtain ⟨p0, p1, pf⟩ := box2 P3.out
  have PS3 := Lib.hid (PS.out w3 N3.out [97, 32, 108, 111, 99, 107, 32, 109, 32, 48] (by decide))
  rw [ev_of_map ex24_parse, pE_ex] at PS3
  go_wp2_with fail
  refine PS3.out.mono ?_
  rintro z w4 ⟨rfl, n4⟩
  have N4 := Lib.hid (N3.out.trans n4)
  have P4 := Lib.hid (n4.at_ P3.out)
  clear n4 P3 p0 p1 pf PS3
  go_upto_region 4 with fail
  obtain ⟨w5, hw5⟩ : ∃ w5, w4.alloc (.cells #[.int .i64 0, .int .u8 1, .int .i64 0, .int .i64 0, .int .i64 0] 29) = w5 := ⟨_, rfl⟩
  obtain ⟨eb, heb⟩ : ∃ eb, w4.heap.size = eb := ⟨_, rfl⟩
  have EB : Hid (w5.heap[eb]? = some (.cells #[.int .i64 0, .int .u8 1, .int .i64 0, .int .i64 0, .int .i64 0] 29 (0, 0))) := Lib.hid (by rw [← hw5, ← heb]; exact heap_alloc_new w4 _)
  have n5 : Nw w4 w5 := by rw [← hw5]; exact (Nw.refl w4).alloc _
  have N5 := Lib.hid (N4.out.trans n5)
  have P5 := Lib.hid (n5.at_ P4.out)
  rw [hw5, heb]
  clear hw5 heb n5 P4 N4
  obtain ⟨e0, e1, e2, e3, e4, ef⟩ := box5 EB.out
  go_wp2_with fail
  go_loopw [38] (fun v wr => ∃ k : Nat, k ≤ 4 ∧ v = .int .i64 k ∧ Nw w5 wr) (fun v _ => 4 - (intOf v).toNat)
  case atStart => exact ⟨0, by omega, rfl, Nw.refl _⟩
  case round =>
    obtain ⟨k, hk, rfl, hw⟩ := hrel
    have HW := Lib.hid hw
    clear hw e0 e1 e2 e3 e4 ef EB
    by_cases hkn : k < 4
    · have PB := Lib.hid (HW.out.at_ P5.out)
      obtain ⟨p0, p1, pf⟩ := box2 PB.out
      obtain rfl | rfl | rfl | rfl : k = 0 ∨ k = 1 ∨ k = 2 ∨ k = 3 := by omega
      · have PS5 := PS.out wr (N5.out.trans HW.out) [97, 32, 108, 111, 99, 107, 32, 109] (by decide)
        rw [none_of (ex24_bad [97, 32, 108, 111, 99, 107, 32, 109] (by decide)), pE_none] at PS5
        have PS6 := Lib.hid PS5
        clear PS5
        have ix := idx4_0
        go_wp2_with fail
        refine PS6.out.mono ?_
        rintro z w6 ⟨rfl, n6⟩
        have N6 := Lib.hid (HW.out.trans n6)
        clear n6 PS6 p0 p1 pf PB ix
        go_wp2_with fail
        exact ⟨⟨1, by omega, rfl, N6.out.alloc _⟩, by simp [intOf]⟩
      · have PS5 := PS.out wr (N5.out.trans HW.out) [97, 32, 108, 111, 99, 107, 32, 109, 32, 48, 48] (by decide)
        rw [none_of (ex24_bad [97, 32, 108, 111, 99, 107, 32, 109, 32, 48, 48] (by decide)), pE_none] at PS5
        have PS6 := Lib.hid PS5
        clear PS5
        have ix := idx4_1
        go_wp2_with fail
        refine PS6.out.mono ?_
        rintro z w6 ⟨rfl, n6⟩
        have N6 := Lib.hid (HW.out.trans n6)
        clear n6 PS6 p0 p1 pf PB ix
        go_wp2_with fail
        exact ⟨⟨2, by omega, rfl, N6.out.alloc _⟩, by simp [intOf]⟩
      · have PS5 := PS.out wr (N5.out.trans HW.out) [97, 32, 108, 111, 99, 107, 32, 109, 32, 48, 32, 48] (by decide)
        rw [none_of (ex24_bad [97, 32, 108, 111, 99, 107, 32, 109, 32, 48, 32, 48] (by decide)), pE_none] at PS5
        have PS6 := Lib.hid PS5
        clear PS5
        have ix := idx4_2
        go_wp2_with fail
        refine PS6.out.mono ?_
        rintro z w6 ⟨rfl, n6⟩
        have N6 := Lib.hid (HW.out.trans n6)
        clear n6 PS6 p0 p1 pf PB ix
        go_wp2_with fail
        exact ⟨⟨3, by omega, rfl, N6.out.alloc _⟩, by simp [intOf]⟩
      · have PS5 := PS.out wr (N5.out.trans HW.out) [98, 32, 108, 111, 99, 107, 32, 109, 32, 48] (by decide)
        rw [none_of (ex24_bad [98, 32, 108, 111, 99, 107, 32, 109, 32, 48] (by decide)), pE_none] at PS5
        have PS6 := Lib.hid PS5
        clear PS5
        have ix := idx4_3
        go_wp2_with fail
        refine PS6.out.mono ?_
        rintro z w6 ⟨rfl, n6⟩
        have N6 := Lib.hid (HW.out.trans n6)
        clear n6 PS6 p0 p1 pf PB ix
        go_wp2_with fail
        exact ⟨⟨4, by omega, rfl, N6.out.alloc _⟩, by simp [intOf]⟩
    · have q : decide ((k : Int) < 4) = false := by simp; omega
      go_wp2_with fail
      go_ret
      exact ⟨rfl, N1.out.trans (N5.out.trans HW.out)⟩
end Go.Proofs.YtcmaedoolinijaaGreatDoor

namespace Go.Proofs.YtcmaedoolinijaaGreatDoor
open Go Go.RowKit Go.Sort
set_option maxRecDepth 100000
set_option maxHeartbeats 6400000
theorem nums_len {a b : Int} (ha : in64 a) (hb : in64 b) : (numsS a b).length ≤ 43 := by
  have h1 := Lib.itoa_length_le a ha.1 ha.2
  have h2 := Lib.itoa_length_le b hb.1 hb.2
  unfold numsS
  split <;> simp <;> omega
theorem repl_ok {w : World} (hM : Mx w) {a b : Int} (ha : in64 a) (hb : in64 b) (d : UInt8) :
    Calls Tryz.prog 8 #[.string ⟨(aheadS ++ numsS a b).toArray⟩, .string ⟨#[118, 32]⟩, .string ⟨#[118, 32, d]⟩, .int .i64 1] w fun z w' => z = .returned (.string ⟨(aheadS ++ [d] ++ numsS a b).toArray⟩) ∧ Nw w w' := by
  obtain ⟨m, hm⟩ := hM
  have hl := nums_len ha hb
  have hs : (⟨(aheadS ++ numsS a b).toArray⟩ : ByteArray).size = 9 + (numsS a b).length := by
    show (aheadS ++ numsS a b).length = _
    rw [List.length_append]; rfl
  have hc := Lib.countB_le ⟨#[118, 32]⟩ (by decide) _ ⟨(aheadS ++ numsS a b).toArray⟩ (Nat.le_refl _)
  have hn : (⟨#[118, 32, d]⟩ : ByteArray).size = 3 := rfl
  refine (Tryz.strings_Replace ⟨(aheadS ++ numsS a b).toArray⟩ ⟨#[118, 32]⟩ ⟨#[118, 32, d]⟩ 1 m w (by omega) hm (by decide) (by rw [hn]; omega)).mono ?_
  rintro z w' ⟨rfl, h⟩
  refine ⟨?_, Nw.of_below h⟩
  have := replace24n (r := numsS a b) (bad := [d]) (by simp)
  show Ending.returned (.string ⟨(Lib.replace (aheadS ++ numsS a b) [118, 32] [118, 32, d] 1).toArray⟩) = _
  rw [show ([118, 32, d] : List UInt8) = [118, 32] ++ [d] from rfl, this]
theorem ev_eq {th ob na nb a b : Int} {op : UInt8} (h1 : th = 0) (h2 : (op.toNat : Int) = 22) (h3 : ob = 0) (h4 : na = a) (h5 : nb = b) : (⟨th, op, ob, na, nb⟩ : Ev) = ⟨0, 22, 0, a, b⟩ := by
  have : op = 22 := UInt8.toNat_inj.1 (by have : (22 : UInt8).toNat = 22 := rfl; omega)
  rw [h1, h3, h4, h5, this]
theorem ShowNumbers_ok {w : World} (hT : STab w) {a b : Int} (ha : in64 a) (hb : in64 b) : Calls Tryz.prog 3 #[.int .i64 a, .int .i64 b] w fun z w' => z = .returned (.bool true) ∧ Nw w w' := by
  have HT := Lib.hid (fun (W : World) (hW : Nw w W) => hT.nw hW)
  have MD := Lib.hid (Made_ok hT.mx t24n_bare)
  have HA := Lib.hid ha
  have HB := Lib.hid hb
  have NUM := Lib.hid (numbers24n ha hb)
  have HE : Hid ((⟨0, 22, 0, a, b⟩ : Ev).Ok) := Lib.hid ⟨by simp [in64], by simp [in64], ha, hb⟩
  clear hT ha hb
  unfold t24n at MD
  go_enter Tryz.func3, Tryz.ntmps3
  go_wp2_with fail
  refine MD.out.mono ?_
  rintro z w1 ⟨y0, y1, rfl, hC, n1⟩
  clear MD
  obtain ⟨a0, c0, a1, c1, rfl, rfl, -, -⟩ := hC.lens
  have HC := Lib.hid (fun (W : World) (hW : Nw w1 W) => hC.nw hW)
  have N1 := Lib.hid n1
  have hno : (bareC os24n ts24n).objs.length = 1 := rfl
  have hnt : (bareC os24n ts24n).threads.length = 1 := rfl
  rw [hno, hnt] at HC ⊢
  clear hC n1 hno hnt
  have HR := Lib.hid (fun (W : World) (hW : Nw w1 W) => sRight_ok (HC.out W hW) c24n_bare)
  have LN := Lib.hid (fun (W : World) (hW : Nw w1 W) => Line_ok (HT.out W (N1.out.trans hW)) (HC.out W hW) HE.out (c24n_bare.line _ HE.out) (fun W' hW' => HR.out W' (hW.trans hW')))
  have PS := Lib.hid (fun (W : World) (hW : Nw w1 W) (s : List UInt8) (hs : s.length < 4294967281) => ParseTxt_ok (HT.out W (N1.out.trans hW)) (HC.out W hW) hs c24n_bare.line (fun W' hW' => HR.out W' (hW.trans hW')))
  rw [← c24n_is, line24n] at LN
  rw [← c24n_is] at PS
  go_upto_region 3 with fail
  have TB := two_blk w1 #[.slice a0 1 c0, .slice a1 1 c1] #[.int .i64 0, .int .u8 22, .int .i64 0, .int .i64 a, .int .i64 b] 25 29
  obtain ⟨w2, hw2⟩ : ∃ w2, (w1.alloc (.cells #[.slice a0 1 c0, .slice a1 1 c1] 25)).alloc (.cells #[.int .i64 0, .int .u8 22, .int .i64 0, .int .i64 a, .int .i64 b] 29) = w2 := ⟨_, rfl⟩
  obtain ⟨cb, hcb⟩ : ∃ cb, w1.heap.size = cb := ⟨_, rfl⟩
  obtain ⟨eb, heb⟩ : ∃ eb, cb + 1 = eb := ⟨_, rfl⟩
  rw [hw2, hcb, heb] at TB ⊢
  have N2 := Lib.hid TB.1
  have PB := Lib.hid TB.2.1
  have EB := Lib.hid TB.2.2
  clear TB hw2 hcb heb
  obtain ⟨p0, p1, pf⟩ := box2 PB.out
  obtain ⟨e0, e1, e2, e3, e4, ef⟩ := box5 EB.out
  have LN2 := LN.out w2 N2.out
  obtain ⟨tx, htx⟩ : ∃ tx, aheadS ++ numsS a b = tx := ⟨_, rfl⟩
  have hlen : tx.length ≤ 52 := by
    have := nums_len HA.out HB.out
    rw [← htx, List.length_append]
    have : aheadS.length = 9 := rfl
    omega
  have HTX := Lib.hid htx
  have HLX := Lib.hid hlen
  unfold evV evA at LN2
  simp only [show ((22 : UInt8).toNat : Int) = 22 from rfl] at LN2
  rw [htx] at LN2
  have L2 := Lib.hid LN2
  have RP := Lib.hid (fun (W : World) (hW : Nw w1 W) (d : UInt8) => repl_ok (HT.out W (N1.out.trans hW)).mx HA.out HB.out d)
  rw [htx] at RP
  clear LN2 LN htx hlen
  go_wp2_with fail
  refine L2.out.mono ?_
  rintro z w3 ⟨rfl, n3⟩
  have N3 := Lib.hid (N2.out.trans n3)
  have P3 := Lib.hid (n3.at_ PB.out)
  have E3 := Lib.hid (n3.at_ EB.out)
  clear n3 PB EB p0 p1 pf e0 e1 e2 e3 e4 ef L2
  obtain ⟨p0, p1, pf⟩ := box2 P3.out
  have PS3 := PS.out w3 N3.out tx (by have := HLX.out; omega)
  rw [← HTX.out, NUM.out.1, HTX.out] at PS3
  unfold pE evV evA at PS3
  simp only [Option.getD_some, Option.isSome_some, if_true, show ((22 : UInt8).toNat : Int) = 22 from rfl] at PS3
  have PS3 := Lib.hid PS3
  go_wp2_with fail
  refine PS3.out.mono ?_
  rintro z w4 ⟨rfl, n4⟩
  have N4 := Lib.hid (N3.out.trans n4)
  have P4 := Lib.hid (n4.at_ P3.out)
  have E4 := Lib.hid (n4.at_ E3.out)
  clear n4 P3 E3 p0 p1 pf PS3
  go_upto_region 5 with fail
  obtain ⟨w5, hw5⟩ : ∃ w5, w4.alloc (.cells #[.int .i64 0, .int .u8 22, .int .i64 0, .int .i64 a, .int .i64 b] 29) = w5 := ⟨_, rfl⟩
  obtain ⟨xb, hxb⟩ : ∃ xb, w4.heap.size = xb := ⟨_, rfl⟩
  have XB : Hid (w5.heap[xb]? = some (.cells #[.int .i64 0, .int .u8 22, .int .i64 0, .int .i64 a, .int .i64 b] 29 (0, 0))) := Lib.hid (by rw [← hw5, ← hxb]; exact heap_alloc_new w4 _)
  have n5 : Nw w4 w5 := by rw [← hw5]; exact (Nw.refl w4).alloc _
  have N5 := Lib.hid (N4.out.trans n5)
  have P5 := Lib.hid (n5.at_ P4.out)
  have E5 := Lib.hid (n5.at_ E4.out)
  rw [hw5, hxb]
  clear hw5 hxb n5 P4 E4 N4
  obtain ⟨e0, e1, e2, e3, e4, ef⟩ := box5 E5.out
  obtain ⟨x0, x1, x2, x3, x4, xf⟩ := box5 XB.out
  go_wp2_with fail
  go_loopw [44] (fun v wr => ∃ k : Nat, k ≤ 4 ∧ v = .int .i64 k ∧ Nw w5 wr) (fun v _ => 4 - (intOf v).toNat)
  case atStart => exact ⟨0, by omega, rfl, Nw.refl _⟩
  case round =>
    obtain ⟨k, hk, rfl, hw⟩ := hrel
    have HW := Lib.hid hw
    clear hw e0 e1 e2 e3 e4 ef x0 x1 x2 x3 x4 xf XB
    have AW := Lib.hid (fun (W : World) (hW : Nw wr W) => awake24_ok (HT.out W (N1.out.trans (N5.out.trans (HW.out.trans hW)))))
    have PB := Lib.hid (HW.out.at_ P5.out)
    have EB := Lib.hid (HW.out.at_ E5.out)
    by_cases hkn : k < 4
    · skip
      obtain rfl | rfl | rfl | rfl : k = 0 ∨ k = 1 ∨ k = 2 ∨ k = 3 := by omega
      · have RP6 := Lib.hid (RP.out wr (N5.out.trans HW.out) 43)
        obtain ⟨p0, p1, pf⟩ := box2 PB.out
        have ix := idx4_0
        go_wp2_with fail
        refine RP6.out.mono ?_
        rintro z w6 ⟨rfl, n6⟩
        have N6 := Lib.hid (HW.out.trans n6)
        have P6 := Lib.hid (n6.at_ PB.out)
        have E6 := Lib.hid (n6.at_ EB.out)
        clear n6 PB EB p0 p1 pf ix RP6
        obtain ⟨p0, p1, pf⟩ := box2 P6.out
        obtain ⟨tb, htb⟩ : ∃ tb, aheadS ++ [43] ++ numsS a b = tb := ⟨_, rfl⟩
        have htl : tb.length ≤ 53 := by
          have := nums_len HA.out HB.out
          rw [← htb, List.length_append, List.length_append]
          have : aheadS.length = 9 := rfl
          simp
          omega
        rw [htb]
        have PS6 := PS.out w6 (N5.out.trans N6.out) tb (by omega)
        have hR := NUM.out.2 [43] (by simp)
        rw [htb] at hR
        clear htb htl
        cases hp : parseE c24n tb with
        | none =>
          rw [hp, pE_none] at PS6
          have PS7 := Lib.hid PS6
          clear PS6 hp hR
          go_wp2_with fail
          refine PS7.out.mono ?_
          rintro z w7 ⟨rfl, n7⟩
          have N7 := Lib.hid (N6.out.trans n7)
          clear n7 P6 E6 p0 p1 pf PS7
          go_wp2_with fail
          exact ⟨⟨1, by omega, rfl, N7.out.alloc _⟩, by simp [intOf]⟩
        | some y =>
          exact absurd (hR y hp).2 (by simp)
      · have RP6 := Lib.hid (RP.out wr (N5.out.trans HW.out) 48)
        obtain ⟨p0, p1, pf⟩ := box2 PB.out
        have ix := idx4_1
        go_wp2_with fail
        refine RP6.out.mono ?_
        rintro z w6 ⟨rfl, n6⟩
        have N6 := Lib.hid (HW.out.trans n6)
        have P6 := Lib.hid (n6.at_ PB.out)
        have E6 := Lib.hid (n6.at_ EB.out)
        clear n6 PB EB p0 p1 pf ix RP6
        obtain ⟨p0, p1, pf⟩ := box2 P6.out
        obtain ⟨tb, htb⟩ : ∃ tb, aheadS ++ [48] ++ numsS a b = tb := ⟨_, rfl⟩
        have htl : tb.length ≤ 53 := by
          have := nums_len HA.out HB.out
          rw [← htb, List.length_append, List.length_append]
          have : aheadS.length = 9 := rfl
          simp
          omega
        rw [htb]
        have PS6 := PS.out w6 (N5.out.trans N6.out) tb (by omega)
        have hR := NUM.out.2 [48] (by simp)
        rw [htb] at hR
        clear htb htl
        cases hp : parseE c24n tb with
        | none =>
          rw [hp, pE_none] at PS6
          have PS7 := Lib.hid PS6
          clear PS6 hp hR
          go_wp2_with fail
          refine PS7.out.mono ?_
          rintro z w7 ⟨rfl, n7⟩
          have N7 := Lib.hid (N6.out.trans n7)
          clear n7 P6 E6 p0 p1 pf PS7
          go_wp2_with fail
          exact ⟨⟨2, by omega, rfl, N7.out.alloc _⟩, by simp [intOf]⟩
        | some y =>
          exact absurd (hR y hp).2 (by simp)
      · have RP6 := Lib.hid (RP.out wr (N5.out.trans HW.out) 32)
        obtain ⟨p0, p1, pf⟩ := box2 PB.out
        have ix := idx4_2
        go_wp2_with fail
        refine RP6.out.mono ?_
        rintro z w6 ⟨rfl, n6⟩
        have N6 := Lib.hid (HW.out.trans n6)
        have P6 := Lib.hid (n6.at_ PB.out)
        have E6 := Lib.hid (n6.at_ EB.out)
        clear n6 PB EB p0 p1 pf ix RP6
        obtain ⟨p0, p1, pf⟩ := box2 P6.out
        obtain ⟨tb, htb⟩ : ∃ tb, aheadS ++ [32] ++ numsS a b = tb := ⟨_, rfl⟩
        have htl : tb.length ≤ 53 := by
          have := nums_len HA.out HB.out
          rw [← htb, List.length_append, List.length_append]
          have : aheadS.length = 9 := rfl
          simp
          omega
        rw [htb]
        have PS6 := PS.out w6 (N5.out.trans N6.out) tb (by omega)
        have hR := NUM.out.2 [32] (by simp)
        rw [htb] at hR
        clear htb htl
        cases hp : parseE c24n tb with
        | none =>
          rw [hp, pE_none] at PS6
          have PS7 := Lib.hid PS6
          clear PS6 hp hR
          go_wp2_with fail
          refine PS7.out.mono ?_
          rintro z w7 ⟨rfl, n7⟩
          have N7 := Lib.hid (N6.out.trans n7)
          clear n7 P6 E6 p0 p1 pf PS7
          go_wp2_with fail
          exact ⟨⟨3, by omega, rfl, N7.out.alloc _⟩, by simp [intOf]⟩
        | some y =>
          exact absurd (hR y hp).2 (by simp)
      · have RP6 := Lib.hid (RP.out wr (N5.out.trans HW.out) 45)
        obtain ⟨p0, p1, pf⟩ := box2 PB.out
        have ix := idx4_3
        go_wp2_with fail
        refine RP6.out.mono ?_
        rintro z w6 ⟨rfl, n6⟩
        have N6 := Lib.hid (HW.out.trans n6)
        have P6 := Lib.hid (n6.at_ PB.out)
        have E6 := Lib.hid (n6.at_ EB.out)
        clear n6 PB EB p0 p1 pf ix RP6
        obtain ⟨p0, p1, pf⟩ := box2 P6.out
        obtain ⟨tb, htb⟩ : ∃ tb, aheadS ++ [45] ++ numsS a b = tb := ⟨_, rfl⟩
        have htl : tb.length ≤ 53 := by
          have := nums_len HA.out HB.out
          rw [← htb, List.length_append, List.length_append]
          have : aheadS.length = 9 := rfl
          simp
          omega
        rw [htb]
        have PS6 := PS.out w6 (N5.out.trans N6.out) tb (by omega)
        have hR := NUM.out.2 [45] (by simp)
        rw [htb] at hR
        clear htb htl
        cases hp : parseE c24n tb with
        | none =>
          rw [hp, pE_none] at PS6
          have PS7 := Lib.hid PS6
          clear PS6 hp hR
          go_wp2_with fail
          refine PS7.out.mono ?_
          rintro z w7 ⟨rfl, n7⟩
          have N7 := Lib.hid (N6.out.trans n7)
          clear n7 P6 E6 p0 p1 pf PS7
          go_wp2_with fail
          exact ⟨⟨4, by omega, rfl, N7.out.alloc _⟩, by simp [intOf]⟩
        | some y =>
          rw [hp] at PS6
          have hne := (hR y hp).1
          obtain ⟨th, op, ob, na, nb⟩ := y
          unfold pE evV evA at PS6
          simp only [Option.getD_some, Option.isSome_some, if_true] at PS6
          have PS7 := Lib.hid PS6
          have HNE := Lib.hid hne
          clear PS6 hp hR hne
          go_wp2_with fail
          refine PS7.out.mono ?_
          rintro z w7 ⟨rfl, n7⟩
          have N7 := Lib.hid (N6.out.trans n7)
          have E7 := Lib.hid (n7.at_ E6.out)
          clear n7 P6 E6 p0 p1 pf PS7
          go_upto_region 12 with fail
          obtain ⟨w8, hw8⟩ : ∃ w8, w7.alloc (.cells #[.int .i64 th, .int .u8 (op.toNat : Int), .int .i64 ob, .int .i64 na, .int .i64 nb] 29) = w8 := ⟨_, rfl⟩
          obtain ⟨yb, hyb⟩ : ∃ yb, w7.heap.size = yb := ⟨_, rfl⟩
          have YB : Hid (w8.heap[yb]? = some (.cells #[.int .i64 th, .int .u8 (op.toNat : Int), .int .i64 ob, .int .i64 na, .int .i64 nb] 29 (0, 0))) := Lib.hid (by rw [← hw8, ← hyb]; exact heap_alloc_new w7 _)
          have n8 : Nw w7 w8 := by rw [← hw8]; exact (Nw.refl w7).alloc _
          have N8 := Lib.hid (N7.out.trans n8)
          have E8 := Lib.hid (n8.at_ E7.out)
          rw [hw8, hyb]
          clear hw8 hyb n8 E7 N7
          obtain ⟨e0, e1, e2, e3, e4, ef⟩ := box5 E8.out
          obtain ⟨x0, x1, x2, x3, x4, xf⟩ := box5 YB.out
          go_wp2_with fail
          all_goals first | exact ⟨⟨4, by omega, rfl, N8.out⟩, by simp [intOf]⟩ | (rename_i h1 h2 h3 h4 h5; exact absurd (ev_eq h1 h2 h3 h4 h5) HNE.out)
    · have q : decide ((k : Int) < 4) = false := by simp; omega
      go_wp2_with fail
      refine (AW.out wr (Nw.refl _)).mono ?_
      rintro z w6 ⟨rfl, n6⟩
      have N6 := Lib.hid (HW.out.trans n6)
      clear n6
      go_wp2_with fail
      go_ret
      exact ⟨rfl, N1.out.trans (N5.out.trans N6.out)⟩
end Go.Proofs.YtcmaedoolinijaaGreatDoor
