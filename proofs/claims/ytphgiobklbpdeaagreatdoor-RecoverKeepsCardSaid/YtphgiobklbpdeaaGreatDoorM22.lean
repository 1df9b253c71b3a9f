/-
  Texts merged by a program of this claim's: LogG, ReadC.
-/
import Derived.Test.YtphgiobklbpdeaaGreatDoorM21
import Derived.Test.YtphgiobklbpdeaaGreatDoorM17
/-
  A log in memory; its small methods, walked.
-/
namespace Go.Proofs.YtphgiobklbpdeaaGreatDoor
open Go Go.RowKit Go.Sort
set_option maxRecDepth 100000
set_option maxHeartbeats 1600000

/-- The log's block p: its disk b, its pieces at ⟨g, o⟩. -/
structure LogM (w : World) (p b : Nat) (L : Lg) (g o cap : Nat) : Prop where
  blk : w.heap[p]? = some (.cells #[.pointer (some ⟨b, 0, none⟩), .int .i64 L.size, .slice (some ⟨g, o, none⟩) L.l.length cap, .int .i64 L.n, .int .i64 L.acked, .int .i64 L.bytes, .bool L.over] 111 (0, 0))
  pcs : Pcs w (.slice (some ⟨g, o, none⟩) L.l.length cap) L.l
  some_ : L.l ≠ []
/-- In w lies the log L at p, on the disk d at b; both were made behind w0; the blocks X are none of theirs. -/
structure HasLG (X : Nat → Prop) (w0 w : World) (p b : Nat) (d : Dsk) (L : Lg) (g o cap : Nat) : Prop where
  mem : LogM w p b L g o cap
  disk : HasX (fun k => X k ∨ k = p ∨ k = g) w0 w b d
  p0 : w0.heap.size ≤ p
  p1 : ¬ X p
  g0 : w0.heap.size ≤ g
  g1 : g ≠ p ∧ ¬ X g
def HasL (X : Nat → Prop) (w0 w : World) (p b : Nat) (d : Dsk) (L : Lg) : Prop := ∃ g o cap, HasLG X w0 w p b d L g o cap
def DidL (X : Nat → Prop) (w0 w : World) (p b : Nat) (d' : Dsk) (L' : Lg) (v : Value) (e : Ending) (w' : World) : Prop := e = .returned v ∧ HasL X w0 w' p b d' L' ∧ Kept X w w'

section
variable {X Y : Nat → Prop} {w0 w w' : World} {p b : Nat} {d d' : Dsk} {L : Lg} {g o cap : Nat}
theorem LogM.cells (h : LogM w p b L g o cap) : w.cell? ⟨p, 0, none⟩ = some (.pointer (some ⟨b, 0, none⟩)) ∧ w.cell? ⟨p, 1, none⟩ = some (.int .i64 L.size) ∧ w.cell? ⟨p, 2, none⟩ = some (.slice (some ⟨g, o, none⟩) L.l.length cap) ∧
    w.cell? ⟨p, 3, none⟩ = some (.int .i64 L.n) ∧ w.cell? ⟨p, 4, none⟩ = some (.int .i64 L.acked) ∧ w.cell? ⟨p, 5, none⟩ = some (.int .i64 L.bytes) ∧ w.cell? ⟨p, 6, none⟩ = some (.bool L.over) ∧ ∀ i, w.frozen? ⟨p, i, none⟩ = false := by
  have := h.blk
  simp [World.cell?, World.frozen?, this]
theorem lastP_at {l : List Pc} (h : l ≠ []) : l[l.length - 1]'(by have := List.length_pos_iff.2 h; omega) = lastP l := by
  simp only [lastP, List.getLastD_eq_getLast?, List.getLast?_eq_some_getLast h, Option.getD_some, List.getLast_eq_getElem]
theorem LogM.last (h : LogM w p b L g o cap) : w.cell? ⟨g, o + (L.l.length - 1) * 4, none⟩ = some (.string ⟨(lastP L.l).name.toArray⟩) ∧ w.cell? ⟨g, o + (L.l.length - 1) * 4 + 1, none⟩ = some (.int .i64 (lastP L.l).first) ∧
    w.cell? ⟨g, o + (L.l.length - 1) * 4 + 2, none⟩ = some (.int .i64 (lastP L.l).count) ∧ w.cell? ⟨g, o + (L.l.length - 1) * 4 + 3, none⟩ = some (.bool (lastP L.l).dense) ∧ g < w.heap.size ∧ 0 < L.l.length ∧ L.l.length ≤ maxLen := by
  have hp := List.length_pos_iff.2 h.some_
  obtain ⟨a, c, he, h1, h2, hel⟩ := h.pcs.elem
  injection he with ea eb ec
  obtain ⟨g', o', e, hg, c0, c1, c2, c3⟩ := hel (L.l.length - 1) (by omega)
  rw [← ea] at e
  injection e with e
  injection e with e1 e2
  subst e1 e2
  rw [lastP_at h.some_] at c0 c1 c2 c3
  exact ⟨c0, c1, c2, c3, hg, hp, by omega⟩
theorem LogM.kept (h : LogM w p b L g o cap) (hk : Kept Y w w') (hp : Y p) (hg : Y g) : LogM w' p b L g o cap := by
  refine ⟨(hk.2 p hp (lt_of_block h.blk)).trans h.blk, ⟨?_, h.pcs.ok⟩, h.some_⟩
  obtain ⟨e, ⟨a, hv, hn⟩ | ⟨g', o', cap', hv, h1, h2, h3, h4⟩⟩ := h.pcs.src
  · exact ⟨e, .inl ⟨a, hv, hn⟩⟩
  · injection hv with ea eb ec
    injection ea with ea
    injection ea with e1 e2
    subst e1 e2 ec
    exact ⟨e, .inr ⟨g, o, cap, rfl, h1, h2, Nat.lt_of_lt_of_le h3 hk.1, fun j hj => hk.cell (h4 j hj) hg⟩⟩
theorem HasLG.disk' (h : HasLG X w0 w p b d L g o cap) (hd : HasX (fun k => X k ∨ k = p ∨ k = g) w0 w' b d') (hk : Kept (fun k => X k ∨ k = p ∨ k = g) w w') : HasLG X w0 w' p b d' L g o cap :=
  ⟨h.mem.kept hk (.inr (.inl rfl)) (.inr (.inr rfl)), hd, h.p0, h.p1, h.g0, h.g1⟩
theorem HasLG.nw (h : HasLG X w0 w p b d L g o cap) (hw : Nw w w') : HasLG X w0 w' p b d L g o cap := h.disk' (h.disk.nw hw) hw.kept
theorem HasL.nw (h : HasL X w0 w p b d L) (hw : Nw w w') : HasL X w0 w' p b d L := by
  obtain ⟨g, o, cap, h⟩ := h
  exact ⟨g, o, cap, h.nw hw⟩
theorem HasL.base (h : HasL X w0 w p b d L) : Nw w0 w := by
  obtain ⟨g, o, cap, h⟩ := h
  exact h.disk.base
theorem HasL.ok (h : HasL X w0 w p b d L) : d.Ok := by
  obtain ⟨g, o, cap, h⟩ := h
  exact h.disk.ok
theorem HasL.has (h : HasL X w0 w p b d L) : HasX X w0 w b d := by
  obtain ⟨g, o, cap, h⟩ := h
  exact h.disk.weak fun k hk => .inl hk
/-- The disk's operations, while a log lies on it. -/
theorem HasL.step {P : Program} {f : FuncId} {args : Array Value} {v : Value} (h : HasL X w0 w p b d L)
    (hop : ∀ Y : Nat → Prop, (∀ k, X k → Y k) → HasX Y w0 w b d → Calls P f args w (DidX Y w0 w b d' v)) : Calls P f args w (DidL X w0 w p b d' L v) := by
  obtain ⟨g, o, cap, h⟩ := h
  refine (hop _ (fun k hk => .inl hk) h.disk).mono ?_
  rintro e w' ⟨rfl, h1, h2⟩
  exact ⟨rfl, ⟨g, o, cap, h.disk' h1 h2⟩, h2.weak fun k hk => .inl hk⟩
/-- A field is written. -/
theorem HasLG.put (h : HasLG X w0 w p b d L g o cap) (L' : Lg) {W : World} (ho : Only (fun k => k = p) w W) (hb : W.heap[p]? = some (.cells #[.pointer (some ⟨b, 0, none⟩), .int .i64 L'.size, .slice (some ⟨g, o, none⟩) L'.l.length cap, .int .i64 L'.n, .int .i64 L'.acked, .int .i64 L'.bytes, .bool L'.over] 111 (0, 0)))
    (hl : L'.l = L.l) : HasLG X w0 W p b d L' g o cap ∧ Kept X w W := by
  have hg : ∀ a : Addr, a.block = g → ∀ u, w.cell? a = some u → W.cell? a = some u := fun a ha u hu => ho.cell hu (by rw [ha]; exact h.g1.1)
  refine ⟨⟨⟨hb, ⟨?_, by rw [hl]; exact h.mem.pcs.ok⟩, by rw [hl]; exact h.mem.some_⟩, h.disk.put ho (fun k hk _ => by subst hk; exact ⟨.inr (.inl rfl), h.p0⟩) (fun k hk => .inl hk), h.p0, h.p1, h.g0, h.g1⟩, ho.size, fun k hk hlt => ho.block k hlt (fun e => h.p1 (e ▸ hk))⟩
  rw [hl]
  obtain ⟨e, ⟨a, hv, hn⟩ | ⟨g', o', cap', hv, h1, h2, h3, h4⟩⟩ := h.mem.pcs.src
  · exact ⟨e, .inl ⟨a, hv, hn⟩⟩
  · injection hv with ea eb ec
    injection ea with ea
    injection ea with e1 e2
    subst e1 e2 ec
    exact ⟨e, .inr ⟨g, o, cap, rfl, h1, h2, Nat.lt_of_lt_of_le h3 ho.size, fun j hj => hg _ rfl _ (h4 j hj)⟩⟩

/-! ### Small methods -/
theorem eqPtrD (W : World) (a : Addr) : (binOp .eql 36 (.pointer (some a)) (.pointer none)).run Tryz.prog W = .ok (.bool false) W := by kernel_rfl
theorem lup_ok (h : LogM w p b L g o cap) : Calls Tryz.prog 108 #[.pointer (some ⟨p, 0, none⟩)] w fun e w' => e = .returned (.int .i64 (if L.over then 16 else 0)) ∧ w = w' := by
  obtain ⟨c0, -, -, -, -, -, c6, -⟩ := h.cells
  have hp := lt_of_block h.blk
  clear h
  cases hov : L.over
  all_goals
    rw [hov] at c6
    clear hov
    go_enter Tryz.func108, Tryz.ntmps108
    go_wp2
    go_ret
    exact ⟨rfl, rfl⟩
theorem lends_ok (h : HasLG X w0 w p b d L g o cap) (x : Int) : Calls Tryz.prog 112 #[.pointer (some ⟨p, 0, none⟩), .int .i64 x] w (DidL X w0 w p b d { L with over := decide (x ≠ 0) } (.int .i64 x)) := by
  obtain ⟨-, -, -, -, -, -, c6, cf⟩ := h.mem.cells
  have f6 := cf 6
  have H := Lib.hid h
  clear h cf
  go_enter Tryz.func112, Tryz.ntmps112
  go_wp2
  go_ret
  have hb := heap_setCell_at H.out.mem.blk 6 (.bool (x != 0))
  have hq : (decide (x ≠ 0)) = (x != 0) := by simp [bne, BEq.beq]
  have := H.out.put { L with over := decide (x ≠ 0) } (W := w.setCell ⟨p, 6, none⟩ (.bool (x != 0))) (Only.setCell (S := fun k => k = p) (p := ⟨p, 6, none⟩) (Only.refl w) (fun _ => rfl) _) (by rw [hb, hq]; rfl) rfl
  exact ⟨rfl, ⟨g, o, cap, this.1⟩, this.2⟩
theorem lopen_ok (h : LogM w p b L g o cap) : Calls Tryz.prog 110 #[.pointer (some ⟨p, 0, none⟩)] w fun e w' => e = .returned (.pointer (some ⟨g, o + (L.l.length - 1) * 4, none⟩)) ∧ Nw w w' := by
  obtain ⟨-, -, c2, -⟩ := h.cells
  have hp := lt_of_block h.blk
  obtain ⟨-, -, -, -, hg, hl0, hl1⟩ := h.last
  obtain ⟨n, hn⟩ : ∃ n, L.l.length = n := ⟨_, rfl⟩
  rw [hn] at c2 hl0 hl1 ⊢
  have g2 := cellG c2
  have hmx : n ≤ 9223372036854775807 := by unfold maxLen at hl1; omega
  clear h hn hl1
  obtain ⟨m, rfl⟩ : ∃ m, n = m + 1 := ⟨n - 1, by omega⟩
  have hw1 : IntKind.i64.wrap (((m + 1 : Nat) : Int) - 1) = (m : Int) := by rw [IntWalk.i64_in _ (by omega)]; omega
  have hw2 : ((m + 1 : Nat) : Int) - 1 = (m : Int) := by omega
  go_enter Tryz.func110, Tryz.ntmps110
  go_upto_region 1 with fail
  refine wp_region_quiet_below (by kernel_rfl) (by kernel_rfl) ?_
  repeat (first | go_big_quiet_step (fail) | quiet_step (fail))
  refine wpQuiet_nil ?_
  intro w6 hw6
  have N6 := Lib.hid (Nw.of_regrown hw6)
  clear hw6
  go_wp2
  go_ret
  exact ⟨rfl, N6.out⟩
theorem Len_ok (h : LogM w p b L g o cap) : Calls Tryz.prog 31 #[.pointer (some ⟨p, 0, none⟩)] w fun e w' => e = .returned (.int .i64 L.n) ∧ w = w' := by
  obtain ⟨-, -, -, c3, -⟩ := h.cells
  have hp := lt_of_block h.blk
  clear h
  go_enter Tryz.func31, Tryz.ntmps31
  go_wp2
  go_ret
  exact ⟨rfl, rfl⟩
theorem Acked_ok (h : LogM w p b L g o cap) : Calls Tryz.prog 30 #[.pointer (some ⟨p, 0, none⟩)] w fun e w' => e = .returned (.int .i64 L.acked) ∧ w = w' := by
  obtain ⟨-, -, -, -, c4, -⟩ := h.cells
  have hp := lt_of_block h.blk
  clear h
  go_enter Tryz.func30, Tryz.ntmps30
  go_wp2
  go_ret
  exact ⟨rfl, rfl⟩
theorem Over_ok (h : LogM w p b L g o cap) : Calls Tryz.prog 61 #[.pointer (some ⟨p, 0, none⟩)] w fun e w' => e = .returned (.bool L.over) ∧ w = w' := by
  obtain ⟨-, -, -, -, -, -, c6, -⟩ := h.cells
  have hp := lt_of_block h.blk
  clear h
  go_enter Tryz.func61, Tryz.ntmps61
  go_wp2
  go_ret
  exact ⟨rfl, rfl⟩
theorem infoPc : (Tryz.prog.info? 44).map (fun i => (i.zero, i.size, i.bytes)) = some (some (.agg #[.string ⟨#[]⟩, .int .i64 0, .int .i64 0, .bool false]), 4, 40) := by kernel_rfl
theorem pcV_one (l : List Pc) : ∀ u ∈ l.flatMap pcV, u.oneCell' = true := fun u hu => by
  obtain ⟨q, -, hq⟩ := List.mem_flatMap.1 hu
  simp only [pcV, List.mem_cons, List.not_mem_nil, or_false] at hq
  rcases hq with rfl | rfl | rfl | rfl <;> rfl
/-- What a clone of pieces is. -/
def CloneP (w : World) (l : List Pc) (e : Ending) (w' : World) : Prop := ∃ v', e = .returned v' ∧ Vec 4 w' v' l.length (l.flatMap pcV) ∧ Nw w w' ∧ ∀ g, v'.ownBlock = some g → w.heap.size ≤ g
theorem eqlPcs (w : World) (a : Option Addr) (n c : Nat) : (binOp .eql 22 (.slice a n c) (.slice none 0 0)).run Tryz.prog w = .ok (.bool a.isNone) w :=
  Lib.run_eql_slice_nil w _ _ a n c 0 0 Tryz.underlying22
theorem PClone_ok {v : Value} {l : List Pc} (hv : Pcs w v l) (hl : l.length ≤ 1000000) :
    Calls Tryz.prog 77 #[v] w (CloneP w l) := by
  obtain ⟨i0, hi, hz0, hz1, hz2⟩ := info_parts infoPc
  have HI := Lib.hid hi
  have HZ0 := Lib.hid hz0
  have HZ1 := Lib.hid hz1
  have HZ2 := Lib.hid hz2
  clear hi hz0 hz1 hz2
  have HV := Lib.hid hv
  obtain ⟨a, cap, rfl, hc, -, hel⟩ := hv.elem
  have hq := eqlPcs w a l.length cap
  cases a with
  | none =>
    have hl0 : l.length = 0 := by
      rcases Nat.eq_zero_or_pos l.length with h | h
      · exact h
      · obtain ⟨g, o, e, -⟩ := hel 0 h
        cases e
    have hnil : l = [] := List.eq_nil_of_length_eq_zero hl0
    subst hnil
    clear hv hel hq HV
    have hq := eqlPcs w none 0 cap
    simp only [Option.isNone_none] at hq
    show Calls _ _ #[.slice none 0 cap] _ _
    go_enter Tryz.func77, Tryz.ntmps77
    go_wp2
    go_ret
    exact ⟨_, rfl, Vec.nil, Nw.refl _, fun g hg => by cases hg⟩
  | some a =>
    clear hv hel
    have hn0 := (Nw.refl w).alloc (.cells #[] 44 (0, 0))
    have V0 := Lib.hid (vec_lit w 44 4 0 [] #[] (0, 0) rfl rfl (by decide) (fun j hj => by omega))
    have S0 := Lib.hid (HV.out.nw hn0).src
    go_enter Tryz.func77, Tryz.ntmps77
    go_wp2_with (at_builtin; refine wpList_append_vec rfl _ _ 22 rfl 44 i0 (.agg #[.string ⟨#[]⟩, .int .i64 0, .int .i64 0, .bool false]) 4 40 Tryz.underlying22 HI.out HZ0.out HZ1.out HZ2.out rfl (by decide) rfl rfl V0.out S0.out ?c1 ?c2 ?c3 ?_)
    case c1 => exact pcV_one l
    case c2 => unfold maxLen; omega
    case c3 => omega
    intro v1 w1 q1 q2 q3
    have Q : Hid (CloneP w l (.returned v1) w1) := Lib.hid (by
      refine ⟨v1, rfl, ?_, hn0.trans' q2 (fun k hk hc => ?_), fun g hg => ?_⟩
      · simpa using q1
      · have e : w.heap.size = k := by simpa [Value.ownBlock] using hc
        omega
      · rcases q3 with h | h
        · rw [h] at hg
          have e : w.heap.size = g := by simpa [Value.ownBlock] using hg
          omega
        · have := h g hg
          omega)
    clear q1 q2 q3 hn0
    go_wp2
    go_ret
    exact Q.out
theorem Vec.pcs {v : Value} {l : List Pc} (h : Vec 4 w v l.length (l.flatMap pcV)) (ho : ∀ q ∈ l, q.Ok) : Pcs w v l := ⟨h.src, ho⟩
theorem Pieces_ok (h : LogM w p b L g o cap) (hl : L.l.length ≤ 1000000) : Calls Tryz.prog 27 #[.pointer (some ⟨p, 0, none⟩)] w (CloneP w L.l) := by
  obtain ⟨-, -, c2, -⟩ := h.cells
  have hp := lt_of_block h.blk
  have HC := Lib.hid (PClone_ok h.pcs hl)
  clear h
  go_enter Tryz.func27, Tryz.ntmps27
  go_wp2_with fail
  refine HC.out.mono ?_
  rintro e w1 ⟨v, rfl, q⟩
  have Q := Lib.hid q
  clear q
  go_wp2
  go_ret
  exact ⟨_, rfl, Q.out⟩
end
end Go.Proofs.YtphgiobklbpdeaaGreatDoor

/-
  Package event, walked: Read.
-/
namespace Go.Proofs.YtphgiobklbpdeaaGreatDoor
open Go Go.RowKit Go.Sort
set_option maxRecDepth 100000
set_option maxHeartbeats 1600000

theorem infoEv : (Tryz.prog.info? 80).map (fun i => (i.zero, i.size, i.bytes)) = some (some (.agg #[.int .i64 0, .int .u8 0, .int .i64 0, .int .i64 0, .int .i64 0]), 5, 40) := by kernel_rfl
theorem evV_one (l : List Ev) : ∀ u ∈ l.flatMap evV, u.oneCell' = true := fun u hu => by
  obtain ⟨q, -, hq⟩ := List.mem_flatMap.1 hu
  simp only [evV, List.mem_cons, List.not_mem_nil, or_false] at hq
  rcases hq with rfl | rfl | rfl | rfl | rfl <;> rfl
theorem evs_len : ∀ l : List Ev, (l.flatMap evV).length = l.length * 5
  | [] => rfl
  | e :: l => by rw [List.flatMap_cons, List.length_append, evs_len l, List.length_cons]; simp [evV]; omega
/-- Events of one's own, made behind w. -/
def OwnE (w w' : World) (v : Value) (l : List Ev) : Prop := Vec 5 w' v l.length (l.flatMap evV) ∧ Nw w w' ∧ ∀ g, v.ownBlock = some g → w.heap.size ≤ g
theorem EEvents_ok {w : World} {v : Value} {l : List UInt8} (hv : Bs w v l) {r : List Ev} {ok : Bool} (hr : eventsB l = (r, ok)) :
    Calls Tryz.prog 212 #[v] w fun z w' => ∃ v', z = .returned (.tuple #[v', .bool ok]) ∧ (ok = true → OwnE w w' v' r) ∧ Nw w w' := by
  obtain ⟨a, cap, rfl, h1, h2, -⟩ := hv.elems
  have hmax : l.length ≤ 9223372036854775807 := by unfold maxLen at h2; omega
  obtain ⟨⟨n, x, e⟩, hu⟩ : ∃ y, getU l 0 = y := ⟨_, rfl⟩
  have HU := Lib.hid (GetUint_ok hv 0 ⟨by omega, by omega⟩ hu)
  have hf := getU_fine (b := l) (at_ := 0)
  unfold eventsB at hr
  rw [hu] at hf hr
  simp only at hf hr
  have HV := Lib.hid hv
  clear hv h1 h2 hu
  by_cases c0 : e = 0
  case neg =>
    have q1 : (e != 0) = true := by simpa using c0
    rw [if_pos (.inl c0)] at hr
    cases hr
    clear HV hf
    go_enter Tryz.func212, Tryz.ntmps212
    go_wp2_with fail
    refine HU.out.mono ?_
    rintro z w' ⟨rfl, rfl⟩
    go_wp2
    refine bodyPost_ret (v := .tuple #[.slice none 0 0, .bool false]) (by simp [results, Tryz.results212, go_sem]) rfl ⟨_, rfl, (fun h => by cases h), Nw.refl _⟩
  subst c0
  obtain ⟨-, f1, f2, f3⟩ := hf rfl
  by_cases c1 : n < 1
  · have q1 : decide ((n : Int) < 1) = true := by simp; omega
    rw [if_pos (.inr (.inl c1))] at hr
    cases hr
    clear HV hf
    go_enter Tryz.func212, Tryz.ntmps212
    go_wp2_with fail
    refine HU.out.mono ?_
    rintro z w' ⟨rfl, rfl⟩
    go_wp2
    refine bodyPost_ret (v := .tuple #[.slice none 0 0, .bool false]) (by simp [results, Tryz.results212, go_sem]) rfl ⟨_, rfl, (fun h => by cases h), Nw.refl _⟩
  by_cases c2 : 4096 < n
  · have q1 : decide ((n : Int) < 1) = false := by simp; omega
    have q2 : decide ((4096 : Int) < (n : Int)) = true := by simp; omega
    rw [if_pos (.inr (.inr c2))] at hr
    cases hr
    clear HV hf
    go_enter Tryz.func212, Tryz.ntmps212
    go_wp2_with fail
    refine HU.out.mono ?_
    rintro z w' ⟨rfl, rfl⟩
    go_wp2
    refine bodyPost_ret (v := .tuple #[.slice none 0 0, .bool false]) (by simp [results, Tryz.results212, go_sem]) rfl ⟨_, rfl, (fun h => by cases h), Nw.refl _⟩
  have q1 : decide ((n : Int) < 1) = false := by simp; omega
  have q2 : decide ((4096 : Int) < (n : Int)) = false := by simp; omega
  rw [if_neg (by omega)] at hr
  obtain ⟨i0, hi, hz0, hz1, hz2⟩ := info_parts infoEv
  have HI := Lib.hid hi
  have HZ0 := Lib.hid hz0
  have HZ1 := Lib.hid hz1
  have HZ2 := Lib.hid hz2
  clear hi hz0 hz1 hz2 hf
  have HR := Lib.hid hr
  clear hr
  go_enter Tryz.func212, Tryz.ntmps212
  go_wp2_with fail
  refine HU.out.mono ?_
  rintro z w' ⟨rfl, rfl⟩
  go_wp2
  obtain ⟨E, hE⟩ : ∃ E, evsFrom l n x Ev.zero [] = E := ⟨_, rfl⟩
  rw [hE] at HR
  have hzb := heap_alloc_new w (.cells (evV Ev.zero).toArray 80 (0, 0))
  have hzn := (Nw.refl w).alloc (.cells (evV Ev.zero).toArray 80 (0, 0))
  have HZB := Lib.hid hzb
  have HZN := Lib.hid hzn
  clear hzb hzn
  go_loopw [5, 7, 26] (fun av s i wr => ∃ (j : Nat) (at_ : Int) (y : Ev) (acc : List Ev), j ≤ n ∧ i = .int .u64 j ∧ av = .int .i64 at_ ∧ in64 at_ ∧ evsFrom l (n - j) at_ y acc = E ∧ Vec 5 wr s j (acc.flatMap evV) ∧ Nw w wr ∧ (∀ g, s.ownBlock = some g → w.heap.size ≤ g ∧ g ≠ w.heap.size) ∧
    wr.heap[w.heap.size]? = some (.cells (evV y).toArray 80 (0, 0)) ∧ acc.length = j) (fun _ _ i _ => n - (intOf i).toNat)
  case atStart => exact ⟨0, x, Ev.zero, [], Nat.zero_le _, rfl, rfl, ⟨by omega, by omega⟩, by simpa using hE, Vec.nil, HZN.out, (fun g hg => by cases hg), HZB.out, rfl⟩
  case round =>
    obtain ⟨j, at_, y, acc, hj, rfl, rfl, hat, hE1, hs, hw, hfr, hbox, hacc⟩ := hrel
    clear hE HZB HZN
    obtain ⟨x0, x1, x2, x3, x4, -⟩ := evV_cells hbox
    have hbl := lt_of_block hbox
    obtain ⟨sa, sc, rfl, -⟩ := hs.len
    have HS := Lib.hid (And.intro hs (And.intro hw (And.intro hfr hbox)))
    have HE := Lib.hid hE1
    have HA := Lib.hid hacc
    clear hs hw hfr hbox hE1 hacc
    by_cases hlt : j < n
    · obtain ⟨⟨e1, p1, y1⟩, hg⟩ : ∃ r, getE l at_ y = r := ⟨_, rfl⟩
      have C := EGet_ok (HV.out.nw HS.out.2.1) at_ hat y hg
      have C := Lib.hid C
      have HF := Lib.hid (getE_fine (b := l) (at_ := at_) (x := y))
      have HG := Lib.hid hg
      unfold evV at C
      clear hg
      go_wp2_with fail
      refine C.out.mono ?_
      rintro z w2 ⟨rfl, n2⟩
      have hb2 := n2.at_ HS.out.2.2.2
      obtain ⟨d0, d1, d2, d3, d4, df⟩ := evV_cells hb2
      have f0 := df 0
      have f1 := df 1
      have f2 := df 2
      have f3 := df 3
      have f4 := df 4
      have hbl2 := lt_of_block hb2
      have N2 := Lib.hid n2
      have HB2 := Lib.hid hb2
      clear df hb2 n2 C x0 x1 x2 x3 x4
      have hun : evsFrom l (n - j) at_ y acc = if y1 ≠ 0 then none else evsFrom l (n - (j + 1)) p1 e1 (acc ++ [e1]) := by
        rw [show n - j = (n - (j + 1)) + 1 by omega]
        conv => lhs; unfold evsFrom
        rw [HG.out]
      have hun := hun.symm.trans HE.out
      have HUN := Lib.hid hun
      clear hun HE
      have ho5 := only_set5 w2 w.heap.size (.int .i64 e1.thread) (.int .u8 e1.op.toNat) (.int .i64 e1.obj) (.int .i64 e1.a) (.int .i64 e1.b)
      have hb5 := heap_set5 (w1 := w2) (p := w.heap.size) (t := 80) HB2.out (.int .i64 e1.thread) (.int .u8 e1.op.toNat) (.int .i64 e1.obj) (.int .i64 e1.a) (.int .i64 e1.b)
      obtain ⟨W3, hW3⟩ : ∃ W, W = (((((w2.setCell ⟨w.heap.size, 0, none⟩ (.int .i64 e1.thread)).setCell ⟨w.heap.size, 1, none⟩ (.int .u8 e1.op.toNat)).setCell ⟨w.heap.size, 2, none⟩ (.int .i64 e1.obj)).setCell ⟨w.heap.size, 3, none⟩ (.int .i64 e1.a)).setCell ⟨w.heap.size, 4, none⟩ (.int .i64 e1.b)) := ⟨_, rfl⟩
      have N3 : Hid (Nw w W3) := Lib.hid (by rw [hW3]; exact (HS.out.2.1.trans N2.out).trans' ho5 (fun k hk hc => by omega))
      by_cases hy : y1 = 0
      case neg =>
        have q3 : (y1 != 0) = true := by simpa using hy
        have r := HUN.out
        rw [if_pos hy] at r
        have r2 := HR.out
        rw [← r] at r2
        cases r2
        rw [hW3] at N3
        clear r HUN ho5 hb5 hW3
        go_wp2
        refine bodyPost_ret (v := .tuple #[.slice none 0 0, .bool false]) (by simp [results, Tryz.results212, go_sem]) rfl ⟨_, rfl, (fun h => by cases h), N3.out⟩
      subst hy
      have r := HUN.out
      rw [if_neg (by simp)] at r
      have HUN := Lib.hid r
      clear r
      have S3 : Hid (Vec 5 W3 (.slice sa j sc) j (acc.flatMap evV)) := Lib.hid (by
        rw [hW3]
        exact (HS.out.1.nw N2.out).keep ho5.size (fun g hg => ho5.block g ((HS.out.1.nw N2.out).lt g hg) (HS.out.2.2.1 g hg).2))
      have B3 : Hid (W3.heap[w.heap.size]? = some (.cells (evV e1).toArray 80 (0, 0))) := Lib.hid (by rw [hW3]; exact hb5)
      have HW3 := Lib.hid hW3
      clear ho5 hb5 hW3
      go_upto_region 9 with fail
      rw [← HW3.out]
      obtain ⟨m0, m1, m2, m3, m4, -⟩ := evV_cells B3.out
      have hna := (Nw.refl W3).alloc (.cells (evV e1).toArray 80 (0, 0))
      have V4 := Lib.hid (S3.out.nw hna)
      have X4 := Lib.hid (src_lit W3 80 (0, 0) 5 1 1 (evV e1) rfl (by omega) (by decide))
      have HNA := Lib.hid hna
      have hbl3 := lt_of_block B3.out
      unfold evV at V4 X4
      clear hna d0 d1 d2 d3 d4 f0 f1 f2 f3 f4 HW3
      go_wp2_with (at_builtin; refine wpList_append_vec rfl _ _ 38 rfl 80 i0 (.agg #[.int .i64 0, .int .u8 0, .int .i64 0, .int .i64 0, .int .i64 0]) 5 40 Tryz.underlying38 HI.out HZ0.out HZ1.out HZ2.out rfl (by decide) rfl rfl V4.out X4.out ?c1 ?c2 ?c3 ?_)
      case c1 => exact fun u hu => by simp only [List.mem_cons, List.not_mem_nil, or_false] at hu; rcases hu with rfl | rfl | rfl | rfl | rfl <;> rfl
      case c2 => unfold maxLen; omega
      case c3 => omega
      intro v5 w5 q5 q6 q7
      obtain ⟨ta, tc, rfl, -⟩ := q5.len
      have Q := Lib.hid (And.intro q5 (And.intro q6 q7))
      clear q5 q6 q7
      go_wp2
      go_roundw
      case rel =>
        have hs0 : w.heap.size ≤ W3.heap.size := N3.out.size
        have hfr : ∀ g, (Value.slice ta (j + 1) tc).ownBlock = some g → w.heap.size ≤ g ∧ g ≠ w.heap.size := fun g hg => by
          rcases Q.out.2.2 with h | h
          · exact HS.out.2.2.1 g (h ▸ hg)
          · have h1 := h g hg
            have h2 := HNA.out.size
            omega
        have hnw : Nw w w5 := (N3.out.trans HNA.out).trans' Q.out.2.1 (fun g hg hc => by have := (HS.out.2.2.1 g hc).1; omega)
        refine ⟨j + 1, p1, e1, acc ++ [e1], by omega, by go_num, rfl, ?_, HUN.out, ?_, hnw, hfr, ?_, by rw [List.length_append, HA.out]; rfl⟩
        · have := HF.out (by rw [HG.out])
          rw [HG.out] at this
          simp only at this
          exact ⟨by omega, by omega⟩
        · have e : ([e1] : List Ev).flatMap evV = evV e1 := by simp
          rw [List.flatMap_append, e]
          exact Q.out.1
        · exact Q.out.2.1.at_ (HNA.out.at_ B3.out) (fun hc => (HS.out.2.2.1 _ hc).2 rfl)
      case measure => simp [intOf]; omega
    · obtain rfl : j = n := by omega
      have r := HE.out
      rw [Nat.sub_self] at r
      unfold evsFrom at r
      have r2 := HR.out
      rw [← r] at r2
      simp only [Prod.mk.injEq] at r2
      obtain ⟨rfl, hok⟩ := r2
      have HOK := Lib.hid hok
      clear r hok HE
      have hq : (at_ == (l.length : Int)) = ok := by rw [← HOK.out]; rfl
      go_wp2
      refine bodyPost_ret (v := .tuple #[.slice sa j sc, .bool ok]) (by simp [results, Tryz.results212, go_sem]) rfl ⟨_, rfl, fun _ => ⟨?_, HS.out.2.1, fun g hg => (HS.out.2.2.1 g hg).1⟩, HS.out.2.1⟩
      rw [HA.out]; exact HS.out.1

theorem OwnE.nw {w w' w'' : World} {v : Value} {l : List Ev} (h : OwnE w w' v l) (hw : Nw w' w'') : OwnE w w'' v l := ⟨h.1.nw hw, h.2.1.trans hw, h.2.2⟩
theorem OwnE.from {w W w' : World} {v : Value} {l : List Ev} (hw : Nw w W) (h : OwnE W w' v l) : OwnE w w' v l := ⟨h.1, hw.trans h.2.1, fun g hg => Nat.le_trans hw.size (h.2.2 g hg)⟩
/-- What Read hands back. -/
theorem ERead_ok {w : World} {v : Value} {l : List UInt8} (hv : Bs w v l) (hl : l.length ≤ 90000000) (at_ : Int) (ha : in64 at_) {r : List Ev} {x e : Int} (hr : readFr l at_ = (r, x, e)) :
    Calls Tryz.prog 191 #[v, .int .i64 at_] w fun z w' => ∃ v', z = .returned (.tuple #[v', .int .i64 x, .int .i64 e]) ∧ (e = 0 → OwnE w w' v' r) ∧ Nw w w' := by
  obtain ⟨a, cap, rfl, h1, h2, -⟩ := hv.elems
  obtain ⟨⟨n, y, e0⟩, hu⟩ : ∃ y, getU l at_ = y := ⟨_, rfl⟩
  have HU := Lib.hid (GetUint_ok hv at_ ha hu)
  have hf := getU_fine (b := l) (at_ := at_)
  unfold readFr frameIn at hr
  rw [hu] at hf hr
  simp only at hf hr
  have HV := Lib.hid hv
  clear hv h1 h2 hu ha
  by_cases c0 : e0 = 0
  case neg =>
    have q1 : (e0 != 0) = true := by simpa using c0
    rw [if_pos c0] at hr
    obtain ⟨rfl, rfl, rfl⟩ : [] = r ∧ 0 = x ∧ e0 = e := by simpa using hr
    clear HV hf hr
    go_enter Tryz.func191, Tryz.ntmps191
    go_wp2_with fail
    refine HU.out.mono ?_
    rintro z w' ⟨rfl, rfl⟩
    go_wp2
    refine bodyPost_ret (v := .tuple #[.slice none 0 0, .int .i64 0, .int .i64 e0]) (by simp [results, Tryz.results191, go_sem]) rfl ⟨_, rfl, (fun h => absurd h c0), Nw.refl _⟩
  subst c0
  obtain ⟨f0, f1, f2, f3⟩ := hf rfl
  rw [if_neg (by simp)] at hr
  clear hf
  obtain ⟨k, rfl⟩ : ∃ k : Nat, y = k := ⟨y.toNat, by omega⟩
  by_cases c1 : 262144 < n
  · have q1 : decide ((262144 : Int) < (n : Int)) = true := by simp; omega
    rw [if_pos c1] at hr
    obtain ⟨rfl, rfl, rfl⟩ : [] = r ∧ 0 = x ∧ 3 = e := by simpa using hr
    clear HV hr
    go_enter Tryz.func191, Tryz.ntmps191
    go_wp2_with fail
    refine HU.out.mono ?_
    rintro z w' ⟨rfl, rfl⟩
    go_wp2
    refine bodyPost_ret (v := .tuple #[.slice none 0 0, .int .i64 0, .int .i64 3]) (by simp [results, Tryz.results191, go_sem]) rfl ⟨_, rfl, (fun h => absurd h (by decide)), Nw.refl _⟩
  rw [if_neg c1] at hr
  have q1 : decide ((262144 : Int) < (n : Int)) = false := by simp; omega
  have hsub : IntKind.i64.wrap ((l.length : Int) - (k : Int)) = (l.length : Int) - (k : Int) := IntWalk.i64_in _ (by omega)
  have hmod : ((l.length : Int) - (k : Int)) % 18446744073709551616 = (l.length : Int) - (k : Int) := by omega
  have hadd : IntKind.u64.wrap ((n : Int) + 4) = (n : Int) + 4 := IntWalk.u64_in _ (by omega)
  by_cases c2 : (l.length : Int) < (k : Int) + (n : Int) + 4
  · have q2 : decide ((l.length : Int) - (k : Int) < (n : Int) + 4) = true := by simp; omega
    rw [if_pos c2] at hr
    obtain ⟨rfl, rfl, rfl⟩ : [] = r ∧ 0 = x ∧ 11 = e := by simpa using hr
    clear HV hr
    go_enter Tryz.func191, Tryz.ntmps191
    go_wp2_with fail
    refine HU.out.mono ?_
    rintro z w' ⟨rfl, rfl⟩
    go_wp2
    refine bodyPost_ret (v := .tuple #[.slice none 0 0, .int .i64 0, .int .i64 11]) (by simp [results, Tryz.results191, go_sem]) rfl ⟨_, rfl, (fun h => absurd h (by decide)), Nw.refl _⟩
  rw [if_neg c2] at hr
  have q2 : decide ((l.length : Int) - (k : Int) < (n : Int) + 4) = false := by simp; omega
  obtain ⟨a2, c2', hb2, hl2, t1, t2⟩ := bs_lh HV.out k (k + n + 4) (by omega) (by omega)
  rw [show k + n + 4 - k = n + 4 by omega] at hb2 hl2 t1 t2
  simp only [Int.toNat_natCast] at hr
  rw [show ((k + n + 4 : Nat) : Int) = (k : Int) + (n : Int) + 4 by omega] at t1 t2
  have hw1 : IntKind.i64.wrap ((k : Int) + (n : Int)) = (k : Int) + (n : Int) := IntWalk.i64_in _ (by omega)
  have hw2 : IntKind.i64.wrap ((k : Int) + (n : Int) + 4) = (k : Int) + (n : Int) + 4 := IntWalk.i64_in _ (by omega)
  have hw3 : IntKind.i64.wrap (n : Int) = (n : Int) := IntWalk.i64_in _ (by omega)
  obtain ⟨⟨u, e1⟩, hun⟩ : ∃ y, unsealB ((l.drop k).take (n + 4)) = y := ⟨_, rfl⟩
  have HUN := Lib.hid (Unseal_ok hb2 (by omega) hun)
  rw [hun] at hr
  simp only at hr
  clear hb2 hl2 hun HV
  by_cases c3 : e1 = 0
  case neg =>
    have q3 : (e1 != 0) = true := by simpa using c3
    rw [if_pos c3] at hr
    obtain ⟨rfl, rfl, rfl⟩ : [] = r ∧ 0 = x ∧ e1 = e := by simpa using hr
    clear hr
    go_enter Tryz.func191, Tryz.ntmps191
    go_wp2_with fail
    refine HU.out.mono ?_
    rintro z w' ⟨rfl, rfl⟩
    go_wp2_with fail
    refine HUN.out.mono ?_
    rintro z w1 ⟨v1, rfl, -, n1⟩
    have N1 := Lib.hid n1
    clear n1
    go_wp2
    refine bodyPost_ret (v := .tuple #[.slice none 0 0, .int .i64 0, .int .i64 e1]) (by simp [results, Tryz.results191, go_sem]) rfl ⟨_, rfl, (fun h => absurd h c3), N1.out⟩
  subst c3
  rw [if_neg (by simp)] at hr
  obtain ⟨⟨es, ok⟩, hev⟩ : ∃ y, eventsB u = y := ⟨_, rfl⟩
  rw [hev] at hr
  simp only at hr
  have HEV := Lib.hid hev
  clear hev
  cases ok
  case false =>
    obtain ⟨rfl, rfl, rfl⟩ : [] = r ∧ 0 = x ∧ 10 = e := by simpa using hr
    clear hr
    go_enter Tryz.func191, Tryz.ntmps191
    go_wp2_with fail
    refine HU.out.mono ?_
    rintro z w' ⟨rfl, rfl⟩
    go_wp2_with fail
    refine HUN.out.mono ?_
    rintro z w1 ⟨v1, rfl, b1, n1⟩
    have C := Lib.hid (EEvents_ok b1 HEV.out)
    obtain ⟨xa, xc, rfl, -⟩ := b1.len
    have N1 := Lib.hid n1
    clear n1 b1
    go_wp2_with fail
    refine C.out.mono ?_
    rintro z w2 ⟨v2, rfl, -, n2⟩
    have N2 := Lib.hid (N1.out.trans n2)
    clear n2
    go_wp2
    refine bodyPost_ret (v := .tuple #[.slice none 0 0, .int .i64 0, .int .i64 10]) (by simp [results, Tryz.results191, go_sem]) rfl ⟨_, rfl, (fun h => absurd h (by decide)), N2.out⟩
  case true =>
    obtain ⟨rfl, rfl, rfl⟩ : es = r ∧ (k : Int) + (n : Int) + 4 = x ∧ 0 = e := by simpa using hr
    clear hr
    go_enter Tryz.func191, Tryz.ntmps191
    go_wp2_with fail
    refine HU.out.mono ?_
    rintro z w' ⟨rfl, rfl⟩
    go_wp2_with fail
    refine HUN.out.mono ?_
    rintro z w1 ⟨v1, rfl, b1, n1⟩
    have C := Lib.hid (EEvents_ok b1 HEV.out)
    obtain ⟨xa, xc, rfl, -⟩ := b1.len
    have N1 := Lib.hid n1
    clear n1 b1
    go_wp2_with fail
    refine C.out.mono ?_
    rintro z w2 ⟨v2, rfl, o2, n2⟩
    have O2 := Lib.hid (OwnE.from N1.out (o2 (by first | rfl | trivial)))
    have N2 := Lib.hid (N1.out.trans n2)
    clear n2 o2
    go_wp2
    refine bodyPost_ret (v := .tuple #[v2, .int .i64 ((k : Int) + (n : Int) + 4), .int .i64 0]) (by simp [results, Tryz.results191, go_sem]) rfl ⟨_, rfl, fun _ => O2.out, N2.out⟩
end Go.Proofs.YtphgiobklbpdeaaGreatDoor
