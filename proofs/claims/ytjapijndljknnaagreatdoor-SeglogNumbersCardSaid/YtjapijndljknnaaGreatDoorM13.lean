/-
  Texts merged by a program of this claim's: HasX, LogA, Calm.
-/
import Derived.Test.YtjapijndljknnaaGreatDoorM11
import Derived.Test.YtjapijndljknnaaGreatDoorM12
import Derived.Test.YtjapijndljknnaaGreatDoorM10
/-
  A disk that a statement has made, beside other things that are kept (the blocks X): the disk's functions, told for it; and two disks that share nothing.
-/
namespace Go.Proofs.YtjapijndljknnaaGreatDoor
open Go Go.RowKit Go.Sort
set_option maxRecDepth 100000
set_option maxHeartbeats 800000

def Kept (X : Nat → Prop) (w w' : World) : Prop := w.heap.size ≤ w'.heap.size ∧ ∀ k, X k → k < w.heap.size → w'.heap[k]? = w.heap[k]?
theorem Kept.refl {X : Nat → Prop} (w : World) : Kept X w w := ⟨Nat.le_refl _, fun _ _ _ => rfl⟩
theorem Kept.trans {X : Nat → Prop} {w w' w'' : World} (h : Kept X w w') (h' : Kept X w' w'') : Kept X w w'' :=
  ⟨Nat.le_trans h.1 h'.1, fun k hk hl => (h'.2 k hk (Nat.lt_of_lt_of_le hl h.1)).trans (h.2 k hk hl)⟩
theorem Kept.weak {X Y : Nat → Prop} {w w' : World} (h : Kept X w w') (hy : ∀ k, Y k → X k) : Kept Y w w' := ⟨h.1, fun k hk hl => h.2 k (hy k hk) hl⟩
theorem Nw.kept {X : Nat → Prop} {w w' : World} (h : Nw w w') : Kept X w w' := ⟨h.size, fun k _ hl => h.block k hl (fun hf => hf)⟩
theorem Kept.cell {X : Nat → Prop} {w w' : World} (h : Kept X w w') {a : Addr} {v : Value} (hc : w.cell? a = some v) (hx : X a.block) : w'.cell? a = some v :=
  (World.cell?_of_block (h.2 _ hx (World.block_lt_of_cell? w a hc))).trans hc
theorem Rd.kept {α : Type} {f : α → Value} {X : Nat → Prop} {w w' : World} {v : Value} {l : List α} (h : Rd f w v l) (hk : Kept X w w') (hx : l ≠ [] → ∀ g, v.ownBlock = some g → X g) : Rd f w' v l := by
  rcases h with h | ⟨g, o, cap, rfl, h1, h2, hg, h3⟩
  · exact .inl h
  · exact .inr ⟨g, o, cap, rfl, h1, h2, Nat.lt_of_lt_of_le hg hk.1, fun i hi => hk.cell (h3 i hi) (hx (fun e => by rw [e] at hi; exact absurd hi (by simp)) g rfl)⟩
theorem RowF.kept {α : Type} {f : α → Value} {e : TypeId} {X : Nat → Prop} {w w' : World} {v : Value} {l : List α} (h : RowF f e w v l) (hk : Kept X w w') (hx : ∀ g, v.ownBlock = some g → X g) : RowF f e w' v l :=
  h.keep fun g hg => hk.2 g (hx g hg) (h.lt g hg)

/-- In w lies the disk d at b, made behind w0; of what was there in w0 nothing has turned; the blocks X are none of the disk's. -/
def HasX (X : Nat → Prop) (w0 w : World) (b : Nat) (d : Dsk) : Prop := ∃ S, DiskIn w b d S ∧ Nw w0 w ∧ (∀ k, S k → w0.heap.size ≤ k) ∧ ∀ k, X k → k < w.heap.size ∧ ¬ S k
def DidX (X : Nat → Prop) (w0 w : World) (b : Nat) (d' : Dsk) (v : Value) (e : Ending) (w' : World) : Prop := e = .returned v ∧ HasX X w0 w' b d' ∧ Kept X w w'

section
variable {X Y : Nat → Prop} {w0 w w' : World} {b : Nat} {d d' : Dsk}
theorem HasX.has (h : HasX X w0 w b d) : Has w0 w b d := by
  obtain ⟨S, h1, h2, h3, -⟩ := h
  exact ⟨S, h1, h2, h3⟩
theorem Has.hasX (h : Has w0 w b d) : HasX (fun _ => False) w0 w b d := by
  obtain ⟨S, h1, h2, h3⟩ := h
  exact ⟨S, h1, h2, h3, fun _ hf => hf.elim⟩
theorem HasX.base (h : HasX X w0 w b d) : Nw w0 w := h.has.base
theorem HasX.ok (h : HasX X w0 w b d) : d.Ok := h.has.ok
theorem HasX.lt (h : HasX X w0 w b d) : ∀ k, X k → k < w.heap.size := by
  obtain ⟨S, h1, h2, h3, h4⟩ := h
  exact fun k hk => (h4 k hk).1
theorem HasX.weak (h : HasX X w0 w b d) (hy : ∀ k, Y k → X k) : HasX Y w0 w b d := by
  obtain ⟨S, h1, h2, h3, h4⟩ := h
  exact ⟨S, h1, h2, h3, fun k hk => h4 k (hy k hk)⟩
theorem HasX.nw (h : HasX X w0 w b d) (hw : Nw w w') : HasX X w0 w' b d := by
  obtain ⟨S, h1, h2, h3, h4⟩ := h
  exact ⟨S, h1.nw hw, h2.trans hw, h3, fun k hk => ⟨Nat.lt_of_lt_of_le (h4 k hk).1 hw.size, (h4 k hk).2⟩⟩
/-- .. and new blocks are kept from now on. -/
theorem HasX.nwY (h : HasX X w0 w b d) (hw : Nw w w') (hy : ∀ k, Y k → X k ∨ w.heap.size ≤ k ∧ k < w'.heap.size) : HasX Y w0 w' b d := by
  obtain ⟨S, h1, h2, h3, h4⟩ := h
  refine ⟨S, h1.nw hw, h2.trans hw, h3, fun k hk => ?_⟩
  rcases hy k hk with h | ⟨h, h'⟩
  · exact ⟨Nat.lt_of_lt_of_le (h4 k h).1 hw.size, (h4 k h).2⟩
  · exact ⟨h', fun hs => by have := h1.lt k hs; omega⟩
/-- What is written is none of the disk's and none of w0's. -/
theorem HasX.put {Z : Nat → Prop} (h : HasX X w0 w b d) (hw : Only Z w w') (hz : ∀ k, Z k → k < w.heap.size → X k ∧ w0.heap.size ≤ k) (hy : ∀ k, Y k → X k ∨ w.heap.size ≤ k ∧ k < w'.heap.size) : HasX Y w0 w' b d := by
  obtain ⟨S, h1, h2, h3, h4⟩ := h
  refine ⟨S, ?_, ?_, h3, fun k hk => ?_⟩
  · exact h1.keep hw fun k hk hzk => (h4 k (hz k hzk (h1.lt k hk)).1).2 hk
  · exact h2.trans' hw fun k hk hzk => by have := (hz k hzk (Nat.lt_of_lt_of_le hk h2.size)).2; omega
  · rcases hy k hk with h | ⟨h, h'⟩
    · exact ⟨Nat.lt_of_lt_of_le (h4 k h).1 hw.size, (h4 k h).2⟩
    · exact ⟨h', fun hs => by have := h1.lt k hs; omega⟩
theorem HasX.alloc (h : HasX X w0 w b d) (o : Obj) : HasX (fun k => X k ∨ k = w.heap.size) w0 (w.alloc o) b d :=
  h.nwY ((Nw.refl w).alloc o) fun k hk => hk.imp id (fun e => by subst e; simp)
theorem HasX.turn {S : Nat → Prop} (_hD : DiskIn w b d S) (hN : Nw w0 w) (hS : ∀ k, S k → w0.heap.size ≤ k) (hX : ∀ k, X k → k < w.heap.size ∧ ¬ S k) (h : DiskTo S w w' b d') : HasX X w0 w' b d' ∧ Kept X w w' := by
  obtain ⟨S', h1, h2, h3⟩ := h
  refine ⟨⟨S', h1, hN.trans' h2 (fun k hk hs => ?_), fun k hk => ?_, fun k hk => ⟨Nat.lt_of_lt_of_le (hX k hk).1 h2.size, fun hs => ?_⟩⟩, h2.size, fun k hk hl => h2.block k hl (hX k hk).2⟩
  · have := hS k hs; omega
  · rcases h3 k hk with h | h
    · exact hS k h
    · have := hN.size; omega
  · rcases h3 k hs with h | h
    · exact (hX k hk).2 h
    · have := (hX k hk).1; omega
theorem HasX.new (most : Int) (w : World) (h0 : 0 ≤ most) (h1 : most ≤ 16777216) : Calls Tryz.prog 24 #[.int .i64 most] w fun e w' => ∃ b, e = .returned (.tuple #[.pointer (some ⟨b, 0, none⟩), .int .i64 0]) ∧ HasX (fun _ => False) w w' b (newDsk most) :=
  (Has.new most w h0 h1).mono fun _ _ ⟨b, he, h⟩ => ⟨b, he, h.hasX⟩

theorem HasX.append (h : HasX X w0 w b d) (n : Str) (l : List UInt8) (src : Value) (hs : Bs w src l) (hg : l ≠ [] → ∀ g, src.ownBlock = some g → X g ∨ g < w0.heap.size) (hnl : n.length ≤ 9223372036854775807) (hll : l.length ≤ 140737488355328) {x : Int} (hr : d.append n l = (d', x)) :
    Calls Tryz.prog 27 #[.pointer (some ⟨b, 0, none⟩), .string ⟨n.toArray⟩, src] w (DidX X w0 w b d' (.int .i64 x)) := by
  obtain ⟨S, h1, h2, h3, h4⟩ := h
  have := Append_ok h1 n l src hs (fun hne g hg' hS => by
    rcases hg hne g hg' with h | h
    · exact (h4 g h).2 hS
    · have := h3 g hS; omega) hnl hll
  rw [hr] at this
  exact this.mono fun e w' ⟨he, ht⟩ => ⟨he, HasX.turn h1 h2 h3 h4 ht⟩
theorem HasX.sync (h : HasX X w0 w b d) (n : Str) {x : Int} (hr : d.sync n = (d', x)) :
    Calls Tryz.prog 77 #[.pointer (some ⟨b, 0, none⟩), .string ⟨n.toArray⟩] w (DidX X w0 w b d' (.int .i64 x)) := by
  obtain ⟨S, h1, h2, h3, h4⟩ := h
  have := Sync_ok h1 n
  rw [hr] at this
  exact this.mono fun e w' ⟨he, ht⟩ => ⟨he, HasX.turn h1 h2 h3 h4 ht⟩
theorem HasX.remove (h : HasX X w0 w b d) (n : Str) {x : Int} (hr : d.remove n = (d', x)) :
    Calls Tryz.prog 100 #[.pointer (some ⟨b, 0, none⟩), .string ⟨n.toArray⟩] w (DidX X w0 w b d' (.int .i64 x)) := by
  obtain ⟨S, h1, h2, h3, h4⟩ := h
  have := Remove_ok h1 n
  rw [hr] at this
  exact this.mono fun e w' ⟨he, ht⟩ => ⟨he, HasX.turn h1 h2 h3 h4 ht⟩
theorem HasX.rename (h : HasX X w0 w b d) (n t : Str) (htl : t.length ≤ 9223372036854775807) {x : Int} (hr : d.rename n t = (d', x)) :
    Calls Tryz.prog 79 #[.pointer (some ⟨b, 0, none⟩), .string ⟨n.toArray⟩, .string ⟨t.toArray⟩] w (DidX X w0 w b d' (.int .i64 x)) := by
  obtain ⟨S, h1, h2, h3, h4⟩ := h
  have := Rename_ok h1 n t htl
  rw [hr] at this
  exact this.mono fun e w' ⟨he, ht⟩ => ⟨he, HasX.turn h1 h2 h3 h4 ht⟩
theorem HasX.cut (h : HasX X w0 w b d) (n : Str) (k : Int) {x : Int} (hr : d.cut n k = (d', x)) :
    Calls Tryz.prog 52 #[.pointer (some ⟨b, 0, none⟩), .string ⟨n.toArray⟩, .int .i64 k] w (DidX X w0 w b d' (.int .i64 x)) := by
  obtain ⟨S, h1, h2, h3, h4⟩ := h
  have := Cut_ok h1 n k
  rw [hr] at this
  exact this.mono fun e w' ⟨he, ht⟩ => ⟨he, HasX.turn h1 h2 h3 h4 ht⟩
theorem HasX.arm (h : HasX X w0 w b d) (k : Int) (hk : k ≤ 9223372036854775807) (hr : d.armed k = d') :
    Calls Tryz.prog 47 #[.pointer (some ⟨b, 0, none⟩), .int .i64 k] w (DidX X w0 w b d' (.tuple #[])) := by
  obtain ⟨S, h1, h2, h3, h4⟩ := h
  have := Arm_ok h1 k hk
  rw [hr] at this
  exact this.mono fun e w' ⟨he, ht⟩ => ⟨he, HasX.turn h1 h2 h3 h4 ht⟩
theorem HasX.crash (h : HasX X w0 w b d) (v : Value) (ks : List Int) (hs : Rd i64v w v ks) (hg : ks ≠ [] → ∀ g, v.ownBlock = some g → X g ∨ g < w0.heap.size) (hr : d.crash ks = d') :
    Calls Tryz.prog 49 #[.pointer (some ⟨b, 0, none⟩), v] w (DidX X w0 w b d' (.tuple #[])) := by
  obtain ⟨S, h1, h2, h3, h4⟩ := h
  have := Crash_ok h1 v ks hs (fun hne g hg' hS => by
    rcases hg hne g hg' with h | h
    · exact (h4 g h).2 hS
    · have := h3 g hS; omega)
  rw [hr] at this
  exact this.mono fun e w' ⟨he, ht⟩ => ⟨he, HasX.turn h1 h2 h3 h4 ht⟩
/-! What only reads -/
theorem HasX.size (h : HasX X w0 w b d) (n : Str) {k : Nat} (hk : (fileOf d.files n).bytes.length = k) :
    Calls Tryz.prog 29 #[.pointer (some ⟨b, 0, none⟩), .string ⟨n.toArray⟩] w fun e w' => e = .returned (.int .i64 k) ∧ Nw w w' := by
  obtain ⟨S, h1, -⟩ := h
  subst hk; exact Size_ok h1 n
theorem HasX.synced (h : HasX X w0 w b d) (n : Str) {k : Nat} (hk : (fileOf d.files n).synced = k) :
    Calls Tryz.prog 42 #[.pointer (some ⟨b, 0, none⟩), .string ⟨n.toArray⟩] w fun e w' => e = .returned (.int .i64 k) ∧ Nw w w' := by
  obtain ⟨S, h1, -⟩ := h
  subst hk; exact Synced_ok h1 n
theorem HasX.used (h : HasX X w0 w b d) {k : Nat} (hk : usedF d.files = k) :
    Calls Tryz.prog 38 #[.pointer (some ⟨b, 0, none⟩)] w fun e w' => e = .returned (.int .i64 k) ∧ Nw w w' := by
  obtain ⟨S, h1, -⟩ := h
  subst hk; exact Used_ok h1
theorem HasX.down (h : HasX X w0 w b d) {x : Bool} (hx : d.down = x) :
    Calls Tryz.prog 48 #[.pointer (some ⟨b, 0, none⟩)] w fun e w' => e = .returned (.bool x) ∧ w = w' := by
  obtain ⟨S, h1, -⟩ := h
  subst hx; exact Down_ok h1
theorem HasX.read (h : HasX X w0 w b d) (n : Str) {l : List UInt8} {x : Int} (hr : d.read n = (l, x)) :
    Calls Tryz.prog 14 #[.pointer (some ⟨b, 0, none⟩), .string ⟨n.toArray⟩] w fun e w' => ∃ v, e = .returned (.tuple #[v, .int .i64 x]) ∧ Own w' v l ∧ Nw w w' ∧ ∀ g, v.ownBlock = some g → w.heap.size ≤ g := by
  obtain ⟨S, h1, -⟩ := h
  have := Read_ok h1 n
  rw [hr] at this
  exact this
theorem HasX.list (h : HasX X w0 w b d) {l : List Str} (hl : d.list = l) :
    Calls Tryz.prog 13 #[.pointer (some ⟨b, 0, none⟩)] w fun e w' => ∃ v, e = .returned v ∧ Ss w' v l ∧ Nw w w' ∧ ∀ g, v.ownBlock = some g → w.heap.size ≤ g := by
  obtain ⟨S, h1, -⟩ := h
  have := List_ok h1
  rw [hl] at this
  exact this

/-! ### Two disks that share nothing -/
def Two (X : Nat → Prop) (w0 w : World) (a : Nat) (da : Dsk) (b : Nat) (db : Dsk) : Prop :=
  ∃ S T, DiskIn w a da S ∧ DiskIn w b db T ∧ Nw w0 w ∧ (∀ k, S k → w0.heap.size ≤ k) ∧ (∀ k, T k → w0.heap.size ≤ k) ∧ (∀ k, S k → ¬ T k) ∧ ∀ k, X k → k < w.heap.size ∧ ¬ S k ∧ ¬ T k
variable {a : Nat} {da da' db : Dsk}
theorem Two.symm (h : Two X w0 w a da b db) : Two X w0 w b db a da := by
  obtain ⟨S, T, h1, h2, h3, h4, h5, h6, h7⟩ := h
  exact ⟨T, S, h2, h1, h3, h5, h4, fun k hk hs => h6 k hs hk, fun k hk => ⟨(h7 k hk).1, (h7 k hk).2.2, (h7 k hk).2.1⟩⟩
theorem Two.fst (h : Two X w0 w a da b db) : HasX X w0 w a da := by
  obtain ⟨S, T, h1, h2, h3, h4, h5, h6, h7⟩ := h
  exact ⟨S, h1, h3, h4, fun k hk => ⟨(h7 k hk).1, (h7 k hk).2.1⟩⟩
theorem Two.base (h : Two X w0 w a da b db) : Nw w0 w := h.fst.base
theorem Two.nw (h : Two X w0 w a da b db) (hw : Nw w w') : Two X w0 w' a da b db := by
  obtain ⟨S, T, h1, h2, h3, h4, h5, h6, h7⟩ := h
  exact ⟨S, T, h1.nw hw, h2.nw hw, h3.trans hw, h4, h5, h6, fun k hk => ⟨Nat.lt_of_lt_of_le (h7 k hk).1 hw.size, (h7 k hk).2⟩⟩
theorem Two.weak (h : Two X w0 w a da b db) (hy : ∀ k, Y k → X k) : Two Y w0 w a da b db := by
  obtain ⟨S, T, h1, h2, h3, h4, h5, h6, h7⟩ := h
  exact ⟨S, T, h1, h2, h3, h4, h5, h6, fun k hk => h7 k (hy k hk)⟩
theorem Two.put {Z : Nat → Prop} (h : Two X w0 w a da b db) (hw : Only Z w w') (hz : ∀ k, Z k → k < w.heap.size → X k ∧ w0.heap.size ≤ k) (hy : ∀ k, Y k → X k ∨ w.heap.size ≤ k ∧ k < w'.heap.size) : Two Y w0 w' a da b db := by
  obtain ⟨S, T, h1, h2, h3, h4, h5, h6, h7⟩ := h
  refine ⟨S, T, ?_, ?_, ?_, h4, h5, h6, fun k hk => ?_⟩
  · exact h1.keep hw fun k hk hzk => (h7 k (hz k hzk (h1.lt k hk)).1).2.1 hk
  · exact h2.keep hw fun k hk hzk => (h7 k (hz k hzk (h2.lt k hk)).1).2.2 hk
  · exact h3.trans' hw fun k hk hzk => by have := (hz k hzk (Nat.lt_of_lt_of_le hk h3.size)).2; omega
  · rcases hy k hk with h | ⟨h, h'⟩
    · exact ⟨Nat.lt_of_lt_of_le (h7 k h).1 hw.size, (h7 k h).2⟩
    · exact ⟨h', fun hs => by have := h1.lt k hs; omega, fun hs => by have := h2.lt k hs; omega⟩
theorem Two.nwY (h : Two X w0 w a da b db) (hw : Nw w w') (hy : ∀ k, Y k → X k ∨ w.heap.size ≤ k ∧ k < w'.heap.size) : Two Y w0 w' a da b db :=
  h.put hw (fun _ hf => hf.elim) hy
/-- What is done to the first one. -/
def DidTwo (X : Nat → Prop) (w0 w : World) (a : Nat) (da' : Dsk) (b : Nat) (db : Dsk) (v : Value) (e : Ending) (w' : World) : Prop := e = .returned v ∧ Two X w0 w' a da' b db ∧ Kept X w w'
theorem Two.step {P : Program} {f : FuncId} {args : Array Value} {v : Value} (h : Two X w0 w a da b db)
    (hop : ∀ Y : Nat → Prop, (∀ k, X k → Y k) → HasX Y w0 w a da → Calls P f args w (DidX Y w0 w a da' v)) : Calls P f args w (DidTwo X w0 w a da' b db v) := by
  obtain ⟨S, T, h1, h2, h3, h4, h5, h6, h7⟩ := h
  refine (hop (fun k => X k ∨ T k) (fun k hk => .inl hk) ⟨S, h1, h3, h4, fun k hk => ?_⟩).mono ?_
  · rcases hk with hk | hk
    · exact ⟨(h7 k hk).1, (h7 k hk).2.1⟩
    · exact ⟨h2.lt k hk, fun hs => h6 k hs hk⟩
  · rintro e w' ⟨rfl, ⟨S', g1, g2, g3, g4⟩, hk⟩
    refine ⟨rfl, ⟨S', T, g1, ?_, g2, g3, h5, fun k hs ht => (g4 k (.inr ht)).2 hs, fun k hx => ⟨(g4 k (.inl hx)).1, (g4 k (.inl hx)).2, (h7 k hx).2.2⟩⟩, hk.weak fun k hx => .inl hx⟩
    obtain ⟨m, fs, e1, e2⟩ := h2
    exact ⟨m, fs, e1.keep fun k hk' => hk.2 k (.inr ((e2 k).2 hk')) (e1.lt k hk'), e2⟩
end
end Go.Proofs.YtjapijndljknnaaGreatDoor

/-
  Packages segment and seglog, walked: the small functions: Head, named, sized, gone.
-/
namespace Go.Proofs.YtjapijndljknnaaGreatDoor
open Go Go.RowKit Go.Sort
set_option maxRecDepth 100000
set_option maxHeartbeats 1600000

/-- A literal's row, as one's own. -/
theorem vec_lit (w : World) (t : TypeId) (k n : Nat) (cs : List Value) (C : Array Value) (fz : Nat × Nat) (hC : C = cs.toArray) (hk : cs.length = n * k) (hm : n ≤ maxLen) (hf : ∀ j, j < n * k → ¬ (fz.1 ≤ j ∧ j < fz.2)) :
    Vec k (w.alloc (.cells C t fz)) (.slice (some ⟨w.heap.size, 0, none⟩) n n) n cs := by
  subst hC
  have hb : (w.alloc (.cells cs.toArray t fz)).heap[w.heap.size]? = some (.cells cs.toArray t fz) := heap_alloc_new w _
  refine ⟨hk, .inr ⟨w.heap.size, 0, n, rfl, Nat.le_refl _, hm, by simp, fun j hj => ?_, fun j hj => ?_, fun j hj => ?_⟩⟩
  · have : j < cs.length := by omega
    unfold World.cell?
    rw [show (⟨w.heap.size, 0 + j, none⟩ : Addr).block = w.heap.size from rfl, hb]
    simp [this]
  · have := hf j hj
    unfold World.frozen?
    rw [show (⟨w.heap.size, 0 + j, none⟩ : Addr).block = w.heap.size from rfl, hb]
    obtain ⟨lo, hi⟩ := fz
    simp only [Nat.zero_add] at this ⊢
    rw [Bool.and_eq_false_iff]
    by_cases h : lo ≤ j
    · right; simp; omega
    · left; simp; omega
  · unfold World.cell?
    rw [show (⟨w.heap.size, 0 + j, none⟩ : Addr).block = w.heap.size from rfl, hb]
    simp [hj]
/-- What a maker of bytes hands back beside no error. -/
def NewE (w : World) (l : List UInt8) (e : Ending) (w' : World) : Prop := ∃ v', e = .returned (.tuple #[v', .int .i64 0]) ∧ Vec 1 w' v' l.length (l.map u8) ∧ Nw w w' ∧ ∀ g, v'.ownBlock = some g → w.heap.size ≤ g

theorem Head_ok (n : Nat) (hn : n ≤ 4611686018427387904) (w : World) :
    Calls Tryz.prog 126 #[.int .i64 n] w (NewE w (headB n)) := by
  have kc := fun (w : World) (C : Array Value) (n c : Nat) => Go.Lib.run_convert_bytes_const (P := Tryz.prog) w 35 5 C n c Tryz.underlying35 Tryz.underlying5
  have hm : ((n : Nat) : Int) % 18446744073709551616 = n := by omega
  have V0 := Lib.hid (vec_lit w 5 1 4 (([65, 77, 83, 49] : List UInt8).map u8) _ (4, 5) rfl rfl (by decide) (fun j hj => by omega))
  go_enter Tryz.func126, Tryz.ntmps126
  go_wp2_with fail
  refine (Uint_ok (l := [65, 77, 83, 49]) V0.out n (by omega) (by decide)).mono ?_
  rintro e w1 ⟨v1, rfl, q1, q2, q3⟩
  have HH : Hid (headB n = sealB sumB ([65, 77, 83, 49] ++ uintB n)) := Lib.hid rfl
  have HL : Hid (([65, 77, 83, 49] ++ uintB n).length ≤ 14) := Lib.hid (by
    have := uintB_len n 10 (by omega) (Nat.lt_trans (show n < 2 ^ 64 by omega) (by decide))
    simp only [List.length_append, List.length_cons, List.length_nil]; omega)
  have N1 : Hid (Nw w w1) := Lib.hid (((Nw.refl w).alloc _).trans' q2 (fun k hk hc => by
    have e : w.heap.size = k := by simpa [Value.ownBlock] using hc
    omega))
  generalize [65, 77, 83, 49] ++ uintB n = l1 at *
  obtain ⟨xa, xc, rfl, -⟩ := q1.len
  have Q := Lib.hid q1
  clear q1 q2 q3
  go_wp2_with fail
  refine (Seal_ok Q.out.rd (by have := HL.out; omega)).mono ?_
  rintro e w2 ⟨v2, rfl, q1, q2, q3⟩
  rw [← HH.out] at q1
  obtain ⟨ya, yc, rfl, -⟩ := q1.len
  have P := Lib.hid (And.intro q1 (And.intro q2 q3))
  clear q1 q2 q3
  go_wp2
  refine bodyPost_ret (v := .tuple #[.slice ya (headB n).length yc, .int .i64 0]) (by simp [results, Tryz.results126, go_sem]) rfl ⟨_, rfl, P.out.1, N1.out.trans P.out.2.1, fun g hg => Nat.le_trans N1.out.size (P.out.2.2 g hg)⟩

theorem named_ok (s : Str) (w : World) (hs : s.length ≤ 9223372036854775807) :
    Calls Tryz.prog 63 #[.string ⟨s.toArray⟩] w fun e w' => e = .returned (.bool (okPiece s)) ∧ Nw w w' := by
  have ht := Lib.hid (trim_calls s w hs)
  have hc := Lib.hid (trim_nil s)
  by_cases h0 : s = []
  · subst h0
    go_enter Tryz.func63, Tryz.ntmps63
    go_wp2
    go_ret
    exact ⟨rfl, Nw.refl _⟩
  by_cases h1 : s.length ≤ 40
  · by_cases h2 : s = manifestS
    · subst h2
      unfold manifestS
      go_enter Tryz.func63, Tryz.ntmps63
      go_wp2
      go_ret
      exact ⟨rfl, Nw.refl _⟩
    by_cases h3 : s = nextS
    · subst h3
      unfold nextS
      go_enter Tryz.func63, Tryz.ntmps63
      go_wp2
      go_ret
      exact ⟨rfl, Nw.refl _⟩
    have hR : Hid (okPiece s = s.all okChar) := by
      show okPiece s = _
      have hne : s.isEmpty = false := by simpa using h0
      simp [okPiece, okName, hne, h1, h2, h3]
    have g0 : (s == []) = false := by simpa using h0
    have g2 : (s == [109, 97, 110, 105, 102, 101, 115, 116]) = false := beq_eq_false_iff_ne.2 h2
    have g3 : (s == [109, 97, 110, 105, 102, 101, 115, 116, 46, 110, 101, 119]) = false := beq_eq_false_iff_ne.2 h3
    have b0 : (s != []) = true := by simp [bne, g0]
    have b2 : (s != [109, 97, 110, 105, 102, 101, 115, 116]) = true := by simp [bne, g2]
    have b3 : (s != [109, 97, 110, 105, 102, 101, 115, 116, 46, 110, 101, 119]) = true := by simp [bne, g3]
    go_enter Tryz.func63, Tryz.ntmps63
    go_wp2_with (refine ht.out.mono ?_)
    rintro e w1 ⟨rfl, hw⟩
    have hc' := hc.out
    go_wp2
    go_ret
    exact ⟨by rw [hR.out]; rfl, hw⟩
  · have hR : Hid (okPiece s = false) := by show okPiece s = false; simp [okPiece, okName, h1]
    have h1' : 40 < s.length := by omega
    go_enter Tryz.func63, Tryz.ntmps63
    go_wp2
    go_ret
    exact ⟨by rw [hR.out]; rfl, Nw.refl _⟩

theorem sized_ok (n : Int) {ok : Bool} (hok : ok = decide (64 ≤ n ∧ n ≤ 16777216)) (w : World) : Calls Tryz.prog 80 #[.int .i64 n] w fun e w' => e = .returned (.bool ok) ∧ w = w' := by
  have r := Lib.hid hok
  clear hok
  by_cases h1 : 64 ≤ n
  · go_enter Tryz.func80, Tryz.ntmps80
    go_wp2
    go_ret
    exact ⟨retB (by rw [r.out]; simp [h1]), rfl⟩
  · go_enter Tryz.func80, Tryz.ntmps80
    go_wp2
    go_ret
    exact ⟨retB (by rw [r.out]; simp; omega), rfl⟩

section
variable {X : Nat → Prop} {w0 w : World} {b : Nat} {d : Dsk}
theorem gone_ok (h : HasX X w0 w b d) (n : Str) :
    Calls Tryz.prog 74 #[.pointer (some ⟨b, 0, none⟩), .string ⟨n.toArray⟩] w (DidX X w0 w b (d.gone n).1 (.int .i64 (d.gone n).2)) := by
  have H := Lib.hid h
  clear h
  obtain ⟨d', x, hr⟩ : ∃ d' x, d.remove n = (d', x) := ⟨_, _, rfl⟩
  have R : Hid (d.gone n = (d', if x = 13 then 0 else x)) := Lib.hid (by unfold Dsk.gone; rw [hr])
  rw [R.out]
  by_cases hx : x = 13
  · subst hx
    go_enter Tryz.func74, Tryz.ntmps74
    go_wp2_with fail
    refine (H.out.remove n hr).mono ?_
    rintro e w1 ⟨rfl, q1, q2⟩
    go_wp2
    go_ret
    exact ⟨rfl, q1, q2⟩
  · have hb : (x != 13) = true := by simpa using hx
    have e : Hid ((if x = 13 then 0 else x) = x) := Lib.hid (if_neg hx)
    rw [e.out]
    go_enter Tryz.func74, Tryz.ntmps74
    go_wp2_with fail
    refine (H.out.remove n hr).mono ?_
    rintro e w1 ⟨rfl, q1, q2⟩
    go_wp2
    go_ret
    exact ⟨rfl, q1, q2⟩
end
end Go.Proofs.YtjapijndljknnaaGreatDoor

/-
  A disk that is up and unarmed, with room: what a log's steps do to its files (plain words).
-/
namespace Go.Proofs.YtjapijndljknnaaGreatDoor
open Go

section
variable {L : List (Str × DFile)} {n m : Str} {f : DFile} {d : Dsk} {b : List UInt8}
theorem nmF_setF (L : List (Str × DFile)) (n : Str) (f : DFile) : namesF (setF L n f) = if n ∈ namesF L then namesF L else namesF L ++ [n] := by
  induction L with
  | nil => simp [setF, namesF]
  | cons x L ih =>
    obtain ⟨k, g⟩ := x
    by_cases h : k = n
    · subst h; simp [setF, namesF]
    · simp only [setF, if_neg h]
      simp only [namesF, List.map_cons, List.mem_cons, Ne.symm h, false_or] at ih ⊢
      rw [ih]
      by_cases hm : n ∈ List.map Prod.fst L <;> simp [hm]
theorem fileOf_cons (k : Str) (g : DFile) (L : List (Str × DFile)) (n : Str) : fileOf ((k, g) :: L) n = if k = n then g else fileOf L n := by
  simp only [fileOf, getF]
  split <;> rfl
theorem usedF_cons (x : Str × DFile) (L : List (Str × DFile)) : usedF (x :: L) = x.2.bytes.length + usedF L := by simp [usedF]
theorem usedF_setF (L : List (Str × DFile)) (n : Str) (f : DFile) : usedF (setF L n f) + (fileOf L n).bytes.length = usedF L + f.bytes.length := by
  induction L with
  | nil => simp [setF, usedF, fileOf, getF]
  | cons x L ih =>
    obtain ⟨k, g⟩ := x
    by_cases h : k = n
    · subst h; simp only [setF, if_true, usedF_cons, fileOf_cons]; omega
    · simp only [setF, if_neg h, usedF_cons, fileOf_cons]; omega
theorem usedF_delF (L : List (Str × DFile)) (n : Str) : usedF (delF L n) + (fileOf L n).bytes.length = usedF L := by
  induction L with
  | nil => simp [delF, usedF, fileOf, getF]
  | cons x L ih =>
    obtain ⟨k, g⟩ := x
    by_cases h : k = n
    · subst h; simp only [delF, if_true, usedF_cons, fileOf_cons]; omega
    · simp only [delF, if_neg h, usedF_cons, fileOf_cons]; omega
theorem delF_miss (h : n ∉ namesF L) : delF L n = L := by
  induction L with
  | nil => rfl
  | cons x L ih =>
    obtain ⟨k, g⟩ := x
    simp only [namesF, List.map_cons, List.mem_cons, not_or] at h
    simp [delF, Ne.symm h.1, ih h.2]
theorem namesF_delF (L : List (Str × DFile)) (n : Str) : namesF (delF L n) = (namesF L).erase n := by
  induction L with
  | nil => simp [delF, namesF]
  | cons x L ih =>
    obtain ⟨k, g⟩ := x
    by_cases h : k = n
    · subst h; simp [delF, namesF]
    · simp only [delF, if_neg h]
      simp only [namesF, List.map_cons] at ih ⊢
      rw [ih, List.erase_cons_tail (by simpa using h)]
theorem getF_delF (hn : (namesF L).Nodup) (n m : Str) : getF (delF L n) m = if n = m then none else getF L m := by
  induction L with
  | nil => simp [delF, getF]
  | cons x L ih =>
    obtain ⟨k, g⟩ := x
    simp only [namesF, List.map_cons, List.nodup_cons] at hn
    by_cases h : k = n
    · subst h
      simp only [delF, if_true, getF]
      by_cases h2 : k = m
      · subst h2; simp only [if_true]; exact getF_miss hn.1
      · simp [h2]
    · simp only [delF, if_neg h, getF, ih hn.2]
      by_cases h2 : k = m
      · subst h2; simp [Ne.symm h]
      · simp [h2]
theorem fileOf_delF (hn : (namesF L).Nodup) (n m : Str) : fileOf (delF L n) m = if n = m then ⟨[], 0⟩ else fileOf L m := by
  unfold fileOf
  rw [getF_delF hn]
  split <;> rfl
theorem nodup_delF (hn : (namesF L).Nodup) (n : Str) : (namesF (delF L n)).Nodup := by rw [namesF_delF]; exact hn.erase n
theorem not_mem_delF (hn : (namesF L).Nodup) (n : Str) : n ∉ namesF (delF L n) := by rw [namesF_delF]; exact fun h => by rw [hn.mem_erase_iff] at h; exact h.1 rfl
theorem nodup_setF (hn : (namesF L).Nodup) (n : Str) (f : DFile) : (namesF (setF L n f)).Nodup := by
  rw [nmF_setF]
  split
  · exact hn
  · rename_i h
    rw [List.nodup_append]
    exact ⟨hn, by simp, fun a ha b hb => by simp at hb; subst hb; exact fun e => h (e ▸ ha)⟩
theorem length_setF (L : List (Str × DFile)) (n : Str) (f : DFile) : (setF L n f).length = if n ∈ namesF L then L.length else L.length + 1 := by
  have := congrArg List.length (nmF_setF L n f)
  simp only [namesF, List.length_map] at this ⊢
  rw [this]
  by_cases hm : n ∈ List.map Prod.fst L <;> simp [hm]
theorem length_delF (L : List (Str × DFile)) (n : Str) : (delF L n).length ≤ L.length := by
  have := congrArg List.length (namesF_delF L n)
  simp only [namesF, List.length_map] at this
  rw [this]
  exact Nat.le_trans (List.length_erase_le) (by simp)

/-! ### A calm disk -/
structure Calm (d : Dsk) : Prop where
  up : d.down = false
  arm : d.arm = -1
  names : (namesF d.files).Nodup
theorem op_calm (h : Calm d) (act : List (Str × DFile) → List (Str × DFile)) : d.op 0 act = ({ d with files := act d.files }, 0) := by
  obtain ⟨h1, h2, -⟩ := h
  cases d
  simp only at h1 h2
  subst h1 h2
  simp [Dsk.op]
  decide
theorem op_calm_no (h : Calm d) {e : Int} (he : e ≠ 0) (act : List (Str × DFile) → List (Str × DFile)) : d.op e act = (d, e) := by
  simp [Dsk.op, h.up, he]
theorem Calm.setF (h : Calm d) (n : Str) (f : DFile) : Calm { d with files := setF d.files n f } := ⟨h.up, h.arm, nodup_setF h.names n f⟩
theorem Calm.delF (h : Calm d) (n : Str) : Calm { d with files := delF d.files n } := ⟨h.up, h.arm, nodup_delF h.names n⟩
theorem Calm.same (h : Calm d) (L : List (Str × DFile)) (hn : (namesF L).Nodup) : Calm { d with files := L } := ⟨h.up, h.arm, hn⟩
theorem append_calm (h : Calm d) (hn : okName n = true) (hu : ((usedF d.files + b.length : Nat) : Int) ≤ d.most) (hf : n ∈ namesF d.files ∨ d.files.length < 200) :
    d.append n b = ({ d with files := setF d.files n ⟨(fileOf d.files n).bytes ++ b, (fileOf d.files n).synced⟩ }, 0) := by
  unfold Dsk.append
  rw [show d.mayAppend n b = 0 from ?_, op_calm h]
  unfold Dsk.mayAppend
  rw [if_pos hn, if_neg]
  rintro (h1 | ⟨h1, h2⟩)
  · omega
  · rcases hf with hf | hf
    · exact h1 hf
    · omega
theorem sync_calm (h : Calm d) (hn : n ∈ namesF d.files) : d.sync n = ({ d with files := setF d.files n ⟨(fileOf d.files n).bytes, (fileOf d.files n).bytes.length⟩ }, 0) := by
  unfold Dsk.sync
  rw [show d.there n = 0 by simp [Dsk.there, hn], op_calm h]
theorem gone_calm (h : Calm d) (n : Str) : d.gone n = ({ d with files := delF d.files n }, 0) := by
  unfold Dsk.gone Dsk.remove
  by_cases hn : n ∈ namesF d.files
  · rw [show d.there n = 0 by simp [Dsk.there, hn], op_calm h]; rfl
  · rw [show d.there n = 13 by simp [Dsk.there, hn], op_calm_no h (by decide), delF_miss hn]; rfl
theorem setF_end (h : n ∉ namesF L) (f g : DFile) : setF (setF L n f) n g = L ++ [(n, g)] := by
  rw [setF_miss h, show L ++ [(n, f)] = L ++ (n, f) :: [] from rfl, setF_hit h]
theorem fresh_calm (h : Calm d) (hn : okName n = true) (hu : ((usedF d.files + b.length : Nat) : Int) ≤ d.most) (hf : d.files.length < 200) :
    d.fresh n b = ({ d with files := delF d.files n ++ [(n, ⟨b, b.length⟩)] }, 0) := by
  have hm := not_mem_delF h.names n
  have e0 : fileOf (delF d.files n) n = ⟨[], 0⟩ := by rw [fileOf_delF h.names, if_pos rfl]
  unfold Dsk.fresh
  rw [gone_calm h]
  have h1 := h.delF n
  have e1 := append_calm (b := b) h1 hn (by
    have := usedF_delF d.files n
    simp only
    omega) (.inr (Nat.lt_of_le_of_lt (length_delF _ _) hf))
  simp only [e0, List.nil_append] at e1
  simp only [andThen, if_true, e1]
  have h2 := h1.setF n ⟨b, 0⟩
  have e2 := sync_calm (n := n) h2 (by rw [nmF_setF, if_neg hm]; simp)
  simp only at e2
  rw [e2, fileOf_setF, if_pos rfl, setF_end hm]
theorem install_calm (h : Calm d) {l : List Pc} (hr : rightL l = true) (hu : ((usedF d.files + (manifestB l).length : Nat) : Int) ≤ d.most) (hf : d.files.length < 200) :
    d.install l = ({ d with files := setF (delF d.files nextS) manifestS ⟨manifestB l, (manifestB l).length⟩ }, 0) := by
  have hm := not_mem_delF h.names nextS
  unfold Dsk.install
  rw [if_pos hr, fresh_calm h (by decide) hu hf]
  simp only [andThen, if_true]
  have h1 : Calm { d with files := delF d.files nextS ++ [(nextS, ⟨manifestB l, (manifestB l).length⟩)] } := h.same _ (by
    rw [← setF_miss hm]
    exact nodup_setF (nodup_delF h.names _) _ _)
  unfold Dsk.rename
  rw [if_pos (by decide), show ({ d with files := delF d.files nextS ++ [(nextS, ⟨manifestB l, (manifestB l).length⟩)] } : Dsk).there nextS = 0 by simp [Dsk.there, namesF], op_calm h1]
  simp only [delF_hit hm, List.append_nil]
  rw [show fileOf (delF d.files nextS ++ [(nextS, (⟨manifestB l, (manifestB l).length⟩ : DFile))]) nextS = ⟨manifestB l, (manifestB l).length⟩ by simp [fileOf, getF_hit hm]]
end

/-! ### Lengths -/
theorem pieceB_len {p : Pc} (h : okPiece p.name = true) (h0 : p.first.toNat < 2 ^ 64) (h1 : p.count.toNat < 2 ^ 64) : (pieceB p).length ≤ 62 := by
  simp only [okPiece, okName, Bool.and_eq_true, decide_eq_true_eq] at h
  have hl := h.1.1.1.2
  have a := uintB_len p.name.length 1 (by omega) (by omega)
  have b := uintB_len p.first.toNat 10 (by omega) (Nat.lt_trans h0 (by decide))
  have c := uintB_len p.count.toNat 10 (by omega) (Nat.lt_trans h1 (by decide))
  simp only [pieceB, blobB, List.length_append, List.length_singleton]
  omega
theorem rightFrom_bound : ∀ (l : List Pc) (seen : List Str) (first : Int), rightFrom seen first l = true → 0 ≤ first → first + 1099511627776 * l.length < 2 ^ 60 →
    ∀ p ∈ l, okPiece p.name = true ∧ 0 ≤ p.first ∧ p.first < 2 ^ 60 ∧ 0 ≤ p.count ∧ p.count ≤ 1099511627776
  | [], _, _, _, _, _, _, hp => by cases hp
  | q :: l, seen, first, h, h0, hb, p, hp => by
    simp only [rightFrom, Bool.and_eq_true, decide_eq_true_eq] at h
    obtain ⟨⟨⟨⟨h1, -⟩, h2⟩, h3⟩, h4⟩ := h
    have hc : 0 ≤ q.count ∧ q.count ≤ 1099511627776 := by
      split at h3 <;> simp only [Bool.and_eq_true, decide_eq_true_eq] at h3 <;> omega
    simp only [List.length_cons] at hb
    rcases List.mem_cons.1 hp with rfl | hp
    · refine ⟨h1, ?_, ?_, hc⟩ <;> omega
    · exact rightFrom_bound l _ _ h4 (by omega) (by omega) p hp
theorem rightL_bound {l : List Pc} (h : rightL l = true) : 1 ≤ l.length ∧ l.length ≤ 100 ∧ ∀ p ∈ l, okPiece p.name = true ∧ 0 ≤ p.first ∧ p.first < 2 ^ 60 ∧ 0 ≤ p.count ∧ p.count ≤ 1099511627776 := by
  simp only [rightL, Bool.and_eq_true, decide_eq_true_eq] at h
  exact ⟨h.1.1, h.1.2, rightFrom_bound l _ _ h.2 (by omega) (by omega)⟩
theorem flat_len {l : List Pc} (h : ∀ p ∈ l, (pieceB p).length ≤ 62) : (l.flatMap pieceB).length ≤ 62 * l.length := by
  induction l with
  | nil => simp
  | cons p l ih =>
    have h1 := h p (by simp)
    have h2 := ih (fun q hq => h q (by simp [hq]))
    simp only [List.flatMap_cons, List.length_append, List.length_cons]
    omega
theorem manifestB_len {l : List Pc} (h : rightL l = true) : (manifestB l).length ≤ 6209 := by
  obtain ⟨h1, h2, h3⟩ := rightL_bound h
  have h4 := flat_len (l := l) fun p hp => by
    obtain ⟨a, b, c, d, e⟩ := h3 p hp
    exact pieceB_len a (by omega) (by omega)
  have h5 := uintB_len l.length 1 (by omega) (by omega)
  simp only [manifestB, manifestIn, sealB, List.length_append, List.length_cons, List.length_nil, sumB_len]
  omega
theorem headB_len {n : Nat} (h : n < 2 ^ 64) : (headB n).length ≤ 18 := by
  have := uintB_len n 10 (by omega) (Nat.lt_trans h (by decide))
  simp only [headB, sealB, List.length_append, List.length_cons, List.length_nil, sumB_len]
  omega
end Go.Proofs.YtjapijndljknnaaGreatDoor
