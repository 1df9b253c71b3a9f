/-
  Texts merged by a program of this claim's: LogUse, Picks.
-/
import Derived.Test.YtoikjiojhlfgiaaGreatDoorM19
import Derived.Test.YtoikjiojhlfgiaaGreatDoorM20
import Derived.Test.YtoikjiojhlfgiaaGreatDoorM2
import Derived.Test.YtoikjiojhlfgiaaGreatDoorM9
/-
  A log in a statement's hands: Append and Sync behind few frames; a map of the statement's beside it.
-/
namespace Go.Proofs.YtoikjiojhlfgiaaGreatDoor
open Go Go.RowKit Go.Sort
set_option maxRecDepth 100000
section
variable {X Y : Nat → Prop} {w0 w w' : World} {p b : Nat} {d d' : Dsk} {L : Lg}
/-- An element of a slice of frames. -/
theorem frame_at {fs : List (List Ev)} {a : Option Addr} {n cap : Nat} (h : RdK 1 (isEvs w) w (.slice a n cap) fs) (hn : fs.length = n) {k : Nat} (hk : k < n) :
    ∃ g o ea ec, a = some ⟨g, o, none⟩ ∧ g < w.heap.size ∧ w.cell? ⟨g, o + k, none⟩ = some (.slice ea (fs[k]'(by omega)).length ec) ∧ Evs w (.slice ea (fs[k]'(by omega)).length ec) (fs[k]'(by omega)) := by
  obtain ⟨a', cap', hv, -, -, hel⟩ := h.len
  injection hv with e1 e2 e3
  subst e1
  obtain ⟨g, o, rfl, hg, cs, hl, hc, v', rfl, he⟩ := hel k (by omega)
  obtain ⟨ea, ec, rfl, -, -⟩ := he.elem
  have := hc 0 (by simp)
  exact ⟨g, o, ea, ec, rfl, hg, by simpa using this, he⟩
/-- An element of a slice of single cells. -/
theorem el_at {α : Type} {f : α → Value} {l : List α} {a : Option Addr} {n cap : Nat} (h : Rd f w (.slice a n cap) l) (hn : l.length = n) {k : Nat} (hk : k < n) :
    ∃ g o, a = some ⟨g, o, none⟩ ∧ g < w.heap.size ∧ w.cell? ⟨g, o + k, none⟩ = some (f (l[k]'(by omega))) := by
  obtain ⟨a', cap', hv, -, -, hel⟩ := h.elems
  injection hv with e1 e2 e3
  subst e1
  exact hel k (by omega)
theorem pcs_at {l : List Pc} {a : Option Addr} {n cap : Nat} (h : Pcs w (.slice a n cap) l) (hn : l.length = n) {k : Nat} (hk : k < n) :
    ∃ g o, a = some ⟨g, o, none⟩ ∧ g < w.heap.size ∧ w.cell? ⟨g, o + k * 4, none⟩ = some (.string ⟨(l[k]'(by omega)).name.toArray⟩) ∧ w.cell? ⟨g, o + k * 4 + 1, none⟩ = some (.int .i64 (l[k]'(by omega)).first) ∧
      w.cell? ⟨g, o + k * 4 + 2, none⟩ = some (.int .i64 (l[k]'(by omega)).count) ∧ w.cell? ⟨g, o + k * 4 + 3, none⟩ = some (.bool (l[k]'(by omega)).dense) := by
  obtain ⟨a', cap', hv, -, -, hel⟩ := h.elem
  injection hv with e1 e2 e3
  subst e1
  exact hel k (by omega)
theorem Firsts.apart {m : Nat} (h : Firsts w m) {g i : Nat} {v : Value} (hc : w.cell? ⟨g, i, none⟩ = some v) : g ≠ m := by
  rintro rfl
  obtain ⟨E, ck, hm, -⟩ := h
  unfold World.cell? at hc
  rw [show (⟨g, i, none⟩ : Addr).block = g from rfl, hm] at hc
  cases hc
theorem Ak.call {size : Int} {c : Nat} (h : HasL X w0 w p b d L) (hs : Ak size c d L) (hc : c ≤ 60) (hz : in64 size) (ht : Tab w0) {v : Value} {es : List Ev} (hv : Evs w v es) :
    Calls Tryz.prog 16 #[.pointer (some ⟨p, 0, none⟩), v] w (DidL X w0 w p b (L.add d es).d (L.add d es).L (.int .i64 (L.add d es).e)) := by
  obtain ⟨f1, f2, f3, f4, f5, f6, f7, f8, f9⟩ := hs.facts hc
  exact LAppend_ok h ht ⟨by omega, by omega⟩ f7 (by omega) (by rw [hs.size]; exact hz) hv h.pok
/-- A map beside a log is written. -/
theorem HasL.setMap (h : HasL X w0 w p b d L) {m : Nat} {E : Array MapEntry} {k : Nat} (hm : w.heap[m]? = some (.map E k)) (hx : X m) (hb : w0.heap.size ≤ m) (ho : Only (fun k => k = m) w w') : HasL X w0 w' p b d L := by
  obtain ⟨g, o, cap, h⟩ := h
  have hg : ¬ g = m := by
    rintro rfl
    have := h.mem.last.1
    unfold World.cell? at this
    rw [show (⟨g, o + (L.l.length - 1) * 4, none⟩ : Addr).block = g from rfl, hm] at this
    cases this
  have hp : ¬ p = m := fun e => h.p1 (e ▸ hx)
  refine ⟨g, o, cap, h.mem.kept (Y := fun k => k = p ∨ k = g) ⟨ho.size, fun j hj hl => ho.block j hl fun e => ?_⟩ (.inl rfl) (.inr rfl), h.disk.put ho (fun j hj _ => by subst hj; exact ⟨.inl hx, hb⟩) (fun j hj => .inl hj), h.p0, h.p1, h.g0, h.g1⟩
  subst e
  rcases hj with e | e
  · exact hp e.symm
  · exact hg e.symm
/-- Blocks beside a log are written, or made. -/
theorem HasL.grow {Z Y : Nat → Prop} (h : HasL X w0 w p b d L) (ho : Only Z w w') (hz : ∀ k, Z k → k < w.heap.size → X k ∧ w0.heap.size ≤ k) (hy : ∀ k, Y k → X k ∨ w.heap.size ≤ k ∧ k < w'.heap.size) : HasL Y w0 w' p b d L := by
  obtain ⟨g, o, cap, h⟩ := h
  have hpl := lt_of_block h.mem.blk
  have hgl := h.mem.last.2.2.2.2.1
  refine ⟨g, o, cap, h.mem.kept (Y := fun k => k = p ∨ k = g) ⟨ho.size, fun j hj hl => ho.block j hl fun e => ?_⟩ (.inl rfl) (.inr rfl), h.disk.put ho (fun k hk hl => ⟨.inl (hz k hk hl).1, (hz k hk hl).2⟩) (fun k hk => ?_), h.p0, fun hc => ?_, h.g0, h.g1.1, fun hc => ?_⟩
  · rcases hj with rfl | rfl
    · exact h.p1 (hz _ e hl).1
    · exact h.g1.2 (hz _ e hl).1
  · rcases hk with hk | hk
    · exact (hy k hk).imp .inl id
    · exact .inl (.inr hk)
  · rcases hy p hc with e | e
    · exact h.p1 e
    · omega
  · rcases hy g hc with e | e
    · exact h.g1.2 e
    · omega
theorem Vec.kept {k : Nat} {v : Value} {n : Nat} {cs : List Value} (h : Vec k w v n cs) (hk : Kept Y w w') (hx : ∀ g, v.ownBlock = some g → Y g) : Vec k w' v n cs :=
  h.keep hk.1 fun g hg => hk.2 g (hx g hg) (h.lt g hg)
theorem Firsts.kept {m : Nat} (h : Firsts w m) (hk : Kept Y w w') (hm : Y m) : Firsts w' m := by
  obtain ⟨l, c, h1, h2⟩ := h
  exact ⟨l, c, (hk.2 m hm (lt_of_block h1)).trans h1, h2⟩
theorem pcV_at {q : Pc} : (pcV q).toArray = #[.string ⟨q.name.toArray⟩, .int .i64 q.first, .int .i64 q.count, .bool q.dense] := rfl
end
end Go.Proofs.YtoikjiojhlfgiaaGreatDoor

/-
  The statements' choices and copies, walked: Pick, CopyBytes.
-/
namespace Go.Proofs.YtoikjiojhlfgiaaGreatDoor
open Go Go.RowKit Go.Sort
set_option maxRecDepth 100000
set_option maxHeartbeats 1600000

theorem tmod_pick (x n : Int) (hn : 0 < n) : -n < x.tmod n ∧ x.tmod n < n ∧ (x.tmod n + n).tmod n = x % n := by
  have h0 := Int.emod_nonneg x (by omega : n ≠ 0)
  have h1 := Int.emod_lt_of_pos x hn
  have e : x.tmod n = x % n ∨ (x.tmod n = x % n - n ∧ x % n ≠ 0) := by
    rw [Int.tmod_eq_emod]
    by_cases hc : 0 ≤ x ∨ n ∣ x
    · rw [if_pos hc]; left; simp
    · rw [if_neg hc]; right
      refine ⟨by omega, fun h => hc (.inr (Int.dvd_of_emod_eq_zero h))⟩
  have key : ∀ y : Int, y = x % n ∨ y = x % n - n → (y + n).tmod n = x % n := by
    rintro y (rfl | rfl)
    · rw [Int.tmod_eq_emod_of_nonneg (by omega), Int.add_emod_right, Int.emod_emod]
    · rw [show x % n - n + n = x % n by omega, Int.tmod_eq_emod_of_nonneg h0, Int.emod_emod]
  refine ⟨?_, ?_, key _ (e.imp id (fun h => h.1))⟩
  · rcases e with e | ⟨e, h⟩ <;> omega
  · rcases e with e | ⟨e, h⟩ <;> omega
theorem Pick_ok (x n : Int) (w : World) (h2 : 2 ≤ n) (hn : n ≤ 1000000007) :
    Calls Tryz.prog 15 #[.int .i64 x, .int .i64 n] w fun e w' => e = .returned (.int .i64 (x % n)) ∧ w = w' := by
  obtain ⟨k1, k2, k3⟩ := tmod_pick x n (by omega)
  have hz0 := Int.emod_nonneg x (by omega : n ≠ 0)
  have hz1 := Int.emod_lt_of_pos x (by omega : 0 < n)
  obtain ⟨y, hy⟩ : ∃ y, x.tmod n = y := ⟨_, rfl⟩
  obtain ⟨z, hz⟩ : ∃ z, x % n = z := ⟨_, rfl⟩
  rw [hy] at k1 k2 k3
  rw [hz] at k3 hz0 hz1 ⊢
  clear hz
  go_enter Tryz.func15, Tryz.ntmps15
  go_wp2
  go_ret
  exact ⟨rfl, rfl⟩

theorem CopyBytes_ok {w : World} {v : Value} {l : List UInt8} (h : Bs w v l) (hl : l.length ≤ 9223372036854775807) :
    Calls Tryz.prog 48 #[v] w fun e w' => ∃ v', e = .returned v' ∧ Vec 1 w' v' l.length (l.map u8) ∧ Nw w w' ∧ ∀ g, v'.ownBlock = some g → w.heap.size ≤ g := by
  have c1 := conv_str h
  have hV := Vec.of_conv w 5 l (by unfold maxLen; omega)
  have c2 : (convert 9 45 (.string ⟨l.toArray⟩)).run Tryz.prog w = .ok (.slice (some ⟨w.heap.size, 0, none⟩) l.length (grownCap w l.length 0 5)) (Lib.bytesWorld w 5 ⟨l.toArray⟩) :=
    Lib.run_convert_string_bytes (P := Tryz.prog) w 9 45 5 ⟨l.toArray⟩ Tryz.underlying9 Tryz.underlying45 Tryz.underlying5
  generalize Lib.bytesWorld w 5 ⟨l.toArray⟩ = w1 at c2 hV
  have HV := Lib.hid hV
  clear hV
  clear h
  go_enter Tryz.func48, Tryz.ntmps48
  go_wp2
  go_ret
  exact ⟨.slice (some ⟨w.heap.size, 0, none⟩) l.length (grownCap w l.length 0 5), rfl, HV.out.1, HV.out.2, fun g hg => by cases hg; exact Nat.le_refl _⟩
end Go.Proofs.YtoikjiojhlfgiaaGreatDoor
