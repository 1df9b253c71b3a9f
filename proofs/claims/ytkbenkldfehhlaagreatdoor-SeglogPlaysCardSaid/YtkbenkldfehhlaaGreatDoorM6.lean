/-
  Texts merged by a program of this claim's: Has, HasX, Vec, Facts, RefPlain.
-/
import Derived.Test.YtkbenkldfehhlaaGreatDoorM5
import Derived.Lib.SlBytesConst
import Derived.Test.YtkbenkldfehhlaaGreatDoorM1
import Derived.ArgAppend
import Derived.Laws.IdiomCopy
import Derived.Lib.ConvBytes
namespace Go.Proofs.YtkbenkldfehhlaaGreatDoor
open Go Go.RowKit Go.Sort
set_option maxRecDepth 100000
set_option maxHeartbeats 800000
def Has (w0 w : World) (b : Nat) (d : Dsk) : Prop := ∃ S, DiskIn w b d S ∧ Nw w0 w ∧ ∀ k, S k → w0.heap.size ≤ k

section
variable {w0 w w' : World} {b : Nat} {d d' : Dsk}
theorem Has.nw (h : Has w0 w b d) (hw : Nw w w') : Has w0 w' b d := by
  obtain ⟨S, h1, h2, h3⟩ := h
  exact ⟨S, h1.nw hw, h2.trans hw, h3⟩
theorem Has.base (h : Has w0 w b d) : Nw w0 w := h.choose_spec.2.1
theorem Has.ok (h : Has w0 w b d) : d.Ok := h.choose_spec.1.ok
theorem Has.turn {S : Nat → Prop} (hD : Nw w0 w) (hS : ∀ k, S k → w0.heap.size ≤ k) (h : DiskTo S w w' b d') : Has w0 w' b d' := by
  obtain ⟨S', h1, h2, h3⟩ := h
  refine ⟨S', h1, hD.trans' h2 (fun k hk hs => ?_), fun k hk => ?_⟩
  · have := hS k hs; omega
  · rcases h3 k hk with h | h
    · exact hS k h
    · have := hD.size; omega

theorem Has.new (most : Int) (w : World) (h0 : 0 ≤ most) (h1 : most ≤ 16777216) : Calls Tryz.prog 22 #[.int .i64 most] w fun e w' => ∃ b, e = .returned (.tuple #[.pointer (some ⟨b, 0, none⟩), .int .i64 0]) ∧ Has w w' b (newDsk most) := by
  refine (New_ok most w h0 h1).mono ?_
  rintro e w' ⟨b, S, he, h2, h3, h4⟩
  exact ⟨b, he, S, h2, h3, h4⟩
theorem Has.append (h : Has w0 w b d) (n : Str) (l : List UInt8) (src : Value) (hs : Bs w0 src l) (hnl : n.length ≤ 9223372036854775807) (hll : l.length ≤ 140737488355328) {x : Int} (hr : d.append n l = (d', x)) :
    Calls Tryz.prog 38 #[.pointer (some ⟨b, 0, none⟩), .string ⟨n.toArray⟩, src] w fun e w' => e = .returned (.int .i64 x) ∧ Has w0 w' b d' := by
  obtain ⟨S, h1, h2, h3⟩ := h
  have := Append_ok h1 n l src (hs.nw h2) (fun hne g hg hS => by have := hs.lt hne g hg; have := h3 g hS; omega) hnl hll
  rw [hr] at this
  exact this.mono fun e w' ⟨he, ht⟩ => ⟨he, Has.turn h2 h3 ht⟩
theorem Has.sync (h : Has w0 w b d) (n : Str) {x : Int} (hr : d.sync n = (d', x)) :
    Calls Tryz.prog 78 #[.pointer (some ⟨b, 0, none⟩), .string ⟨n.toArray⟩] w fun e w' => e = .returned (.int .i64 x) ∧ Has w0 w' b d' := by
  obtain ⟨S, h1, h2, h3⟩ := h
  have := Sync_ok h1 n
  rw [hr] at this
  exact this.mono fun e w' ⟨he, ht⟩ => ⟨he, Has.turn h2 h3 ht⟩
theorem Has.remove (h : Has w0 w b d) (n : Str) {x : Int} (hr : d.remove n = (d', x)) :
    Calls Tryz.prog 57 #[.pointer (some ⟨b, 0, none⟩), .string ⟨n.toArray⟩] w fun e w' => e = .returned (.int .i64 x) ∧ Has w0 w' b d' := by
  obtain ⟨S, h1, h2, h3⟩ := h
  have := Remove_ok h1 n
  rw [hr] at this
  exact this.mono fun e w' ⟨he, ht⟩ => ⟨he, Has.turn h2 h3 ht⟩
theorem Has.rename (h : Has w0 w b d) (n t : Str) (htl : t.length ≤ 9223372036854775807) {x : Int} (hr : d.rename n t = (d', x)) :
    Calls Tryz.prog 121 #[.pointer (some ⟨b, 0, none⟩), .string ⟨n.toArray⟩, .string ⟨t.toArray⟩] w fun e w' => e = .returned (.int .i64 x) ∧ Has w0 w' b d' := by
  obtain ⟨S, h1, h2, h3⟩ := h
  have := Rename_ok h1 n t htl
  rw [hr] at this
  exact this.mono fun e w' ⟨he, ht⟩ => ⟨he, Has.turn h2 h3 ht⟩
theorem Has.cut (h : Has w0 w b d) (n : Str) (k : Int) {x : Int} (hr : d.cut n k = (d', x)) :
    Calls Tryz.prog 56 #[.pointer (some ⟨b, 0, none⟩), .string ⟨n.toArray⟩, .int .i64 k] w fun e w' => e = .returned (.int .i64 x) ∧ Has w0 w' b d' := by
  obtain ⟨S, h1, h2, h3⟩ := h
  have := Cut_ok h1 n k
  rw [hr] at this
  exact this.mono fun e w' ⟨he, ht⟩ => ⟨he, Has.turn h2 h3 ht⟩
theorem Has.arm (h : Has w0 w b d) (k : Int) (hk : k ≤ 9223372036854775807) (hr : d.armed k = d') :
    Calls Tryz.prog 13 #[.pointer (some ⟨b, 0, none⟩), .int .i64 k] w fun e w' => e = .returned (.tuple #[]) ∧ Has w0 w' b d' := by
  obtain ⟨S, h1, h2, h3⟩ := h
  have := Arm_ok h1 k hk
  rw [hr] at this
  exact this.mono fun e w' ⟨he, ht⟩ => ⟨he, Has.turn h2 h3 ht⟩
theorem Has.crash (h : Has w0 w b d) (v : Value) (ks : List Int) (hs : Rd i64v w0 v ks) (hr : d.crash ks = d') :
    Calls Tryz.prog 34 #[.pointer (some ⟨b, 0, none⟩), v] w fun e w' => e = .returned (.tuple #[]) ∧ Has w0 w' b d' := by
  obtain ⟨S, h1, h2, h3⟩ := h
  have := Crash_ok h1 v ks (hs.nw h2) (fun hne g hg hS => by have := hs.lt hne g hg; have := h3 g hS; omega)
  rw [hr] at this
  exact this.mono fun e w' ⟨he, ht⟩ => ⟨he, Has.turn h2 h3 ht⟩
theorem Has.size (h : Has w0 w b d) (n : Str) {k : Nat} (hk : (fileOf d.files n).bytes.length = k) :
    Calls Tryz.prog 41 #[.pointer (some ⟨b, 0, none⟩), .string ⟨n.toArray⟩] w fun e w' => e = .returned (.int .i64 k) ∧ Has w0 w' b d := by
  have h' := h
  obtain ⟨S, h1, h2, h3⟩ := h
  subst hk
  exact (Size_ok h1 n).mono fun e w' ⟨he, hw⟩ => ⟨he, h'.nw hw⟩
theorem Has.synced (h : Has w0 w b d) (n : Str) {k : Nat} (hk : (fileOf d.files n).synced = k) :
    Calls Tryz.prog 52 #[.pointer (some ⟨b, 0, none⟩), .string ⟨n.toArray⟩] w fun e w' => e = .returned (.int .i64 k) ∧ Has w0 w' b d := by
  have h' := h
  obtain ⟨S, h1, h2, h3⟩ := h
  subst hk
  exact (Synced_ok h1 n).mono fun e w' ⟨he, hw⟩ => ⟨he, h'.nw hw⟩
theorem Has.used (h : Has w0 w b d) {k : Nat} (hk : usedF d.files = k) :
    Calls Tryz.prog 50 #[.pointer (some ⟨b, 0, none⟩)] w fun e w' => e = .returned (.int .i64 k) ∧ Has w0 w' b d := by
  have h' := h
  obtain ⟨S, h1, h2, h3⟩ := h
  subst hk
  exact (Used_ok h1).mono fun e w' ⟨he, hw⟩ => ⟨he, h'.nw hw⟩
theorem Has.down (h : Has w0 w b d) {x : Bool} (hx : d.down = x) :
    Calls Tryz.prog 49 #[.pointer (some ⟨b, 0, none⟩)] w fun e w' => e = .returned (.bool x) ∧ Has w0 w' b d := by
  have h' := h
  obtain ⟨S, h1, h2, h3⟩ := h
  subst hx
  exact (Down_ok h1).mono fun e w' ⟨he, hw⟩ => ⟨he, by subst hw; exact h'⟩
theorem Has.read (h : Has w0 w b d) (n : Str) {l : List UInt8} {x : Int} (hr : d.read n = (l, x)) :
    Calls Tryz.prog 53 #[.pointer (some ⟨b, 0, none⟩), .string ⟨n.toArray⟩] w fun e w' => ∃ v, e = .returned (.tuple #[v, .int .i64 x]) ∧ Own w' v l ∧ Has w0 w' b d ∧ ∀ g, v.ownBlock = some g → w.heap.size ≤ g := by
  have h' := h
  obtain ⟨S, h1, h2, h3⟩ := h
  have := Read_ok h1 n
  rw [hr] at this
  exact this.mono fun e w' ⟨v, he, hv, hw, hf⟩ => ⟨v, he, hv, h'.nw hw, hf⟩
theorem Has.list (h : Has w0 w b d) {l : List Str} (hl : d.list = l) :
    Calls Tryz.prog 43 #[.pointer (some ⟨b, 0, none⟩)] w fun e w' => ∃ v, e = .returned v ∧ Ss w' v l ∧ Has w0 w' b d ∧ ∀ g, v.ownBlock = some g → w.heap.size ≤ g := by
  have h' := h
  obtain ⟨S, h1, h2, h3⟩ := h
  have := List_ok h1
  rw [hl] at this
  exact this.mono fun e w' ⟨v, he, hv, hw, hf⟩ => ⟨v, he, hv, h'.nw hw, hf⟩
end
theorem rd_lit {α : Type} {f : α → Value} (w : World) (t : TypeId) (fz : Nat × Nat) (l : List α) (C : Array Value) (c : Nat) (hC : C = (l.map f).toArray) (hc : l.length ≤ c) (hm : c ≤ maxLen) :
    Rd f (w.alloc (.cells C t fz)) (.slice (some ⟨w.heap.size, 0, none⟩) l.length c) l := by
  refine .inr ⟨w.heap.size, 0, c, rfl, hc, hm, by simp, fun i hi => ?_⟩
  have : (w.alloc (.cells C t fz)).heap[w.heap.size]? = some (.cells C t fz) := heap_alloc_new w _
  subst hC
  unfold World.cell?
  rw [show (⟨w.heap.size, 0 + i, none⟩ : Addr).block = w.heap.size from rfl, this]
  simp [hi]
end Go.Proofs.YtkbenkldfehhlaaGreatDoor

namespace Go.Proofs.YtkbenkldfehhlaaGreatDoor
open Go Go.RowKit Go.Sort
set_option maxRecDepth 100000
set_option maxHeartbeats 800000

def Kept (X : Nat → Prop) (w w' : World) : Prop := w.heap.size ≤ w'.heap.size ∧ ∀ k, X k → k < w.heap.size → w'.heap[k]? = w.heap[k]?
theorem Kept.refl {X : Nat → Prop} (w : World) : Kept X w w := ⟨Nat.le_refl _, fun _ _ _ => rfl⟩
theorem Kept.trans {X : Nat → Prop} {w w' w'' : World} (h : Kept X w w') (h' : Kept X w' w'') : Kept X w w'' :=
  ⟨Nat.le_trans h.1 h'.1, fun k hk hl => (h'.2 k hk (Nat.lt_of_lt_of_le hl h.1)).trans (h.2 k hk hl)⟩
theorem Kept.weak {X Y : Nat → Prop} {w w' : World} (h : Kept X w w') (hy : ∀ k, Y k → X k) : Kept Y w w' := ⟨h.1, fun k hk hl => h.2 k (hy k hk) hl⟩
theorem Nw.kept {X : Nat → Prop} {w w' : World} (h : Nw w w') : Kept X w w' := ⟨h.size, fun k _ hl => h.block k hl (fun hf => hf)⟩
theorem Kept.cell {X : Nat → Prop} {w w' : World} (h : Kept X w w') {a : Addr} {v : Value} (hc : w.cell? a = some v) (hx : X a.block) : w'.cell? a = some v :=
  (World.cell?_of_block (h.2 _ hx (World.block_lt_of_cell? w a hc))).trans hc
theorem Rd.kept {α : Type} {f : α → Value} {X : Nat → Prop} {w w' : World} {v : Value} {l : List α} (h : Rd f w v l) (hk : Kept X w w') (hx : l ≠ [] → ∀ g, v.ownBlock = some g → X g) : Rd f w' v l := by
  rcases h with h | ⟨g, o, cap, rfl, h1, h2, hg, h3⟩
  · exact .inl h
  · exact .inr ⟨g, o, cap, rfl, h1, h2, Nat.lt_of_lt_of_le hg hk.1, fun i hi => hk.cell (h3 i hi) (hx (fun e => by rw [e] at hi; exact absurd hi (by simp)) g rfl)⟩
theorem RowF.kept {α : Type} {f : α → Value} {e : TypeId} {X : Nat → Prop} {w w' : World} {v : Value} {l : List α} (h : RowF f e w v l) (hk : Kept X w w') (hx : ∀ g, v.ownBlock = some g → X g) : RowF f e w' v l :=
  h.keep fun g hg => hk.2 g (hx g hg) (h.lt g hg)
def HasX (X : Nat → Prop) (w0 w : World) (b : Nat) (d : Dsk) : Prop := ∃ S, DiskIn w b d S ∧ Nw w0 w ∧ (∀ k, S k → w0.heap.size ≤ k) ∧ ∀ k, X k → k < w.heap.size ∧ ¬ S k
def DidX (X : Nat → Prop) (w0 w : World) (b : Nat) (d' : Dsk) (v : Value) (e : Ending) (w' : World) : Prop := e = .returned v ∧ HasX X w0 w' b d' ∧ Kept X w w'

section
variable {X Y : Nat → Prop} {w0 w w' : World} {b : Nat} {d d' : Dsk}
theorem HasX.has (h : HasX X w0 w b d) : Has w0 w b d := by
  obtain ⟨S, h1, h2, h3, -⟩ := h
  exact ⟨S, h1, h2, h3⟩
theorem Has.hasX (h : Has w0 w b d) : HasX (fun _ => False) w0 w b d := by
  obtain ⟨S, h1, h2, h3⟩ := h
  exact ⟨S, h1, h2, h3, fun _ hf => hf.elim⟩
theorem HasX.base (h : HasX X w0 w b d) : Nw w0 w := h.has.base
theorem HasX.ok (h : HasX X w0 w b d) : d.Ok := h.has.ok
theorem HasX.lt (h : HasX X w0 w b d) : ∀ k, X k → k < w.heap.size := by
  obtain ⟨S, h1, h2, h3, h4⟩ := h
  exact fun k hk => (h4 k hk).1
theorem HasX.weak (h : HasX X w0 w b d) (hy : ∀ k, Y k → X k) : HasX Y w0 w b d := by
  obtain ⟨S, h1, h2, h3, h4⟩ := h
  exact ⟨S, h1, h2, h3, fun k hk => h4 k (hy k hk)⟩
theorem HasX.nw (h : HasX X w0 w b d) (hw : Nw w w') : HasX X w0 w' b d := by
  obtain ⟨S, h1, h2, h3, h4⟩ := h
  exact ⟨S, h1.nw hw, h2.trans hw, h3, fun k hk => ⟨Nat.lt_of_lt_of_le (h4 k hk).1 hw.size, (h4 k hk).2⟩⟩
theorem HasX.nwY (h : HasX X w0 w b d) (hw : Nw w w') (hy : ∀ k, Y k → X k ∨ w.heap.size ≤ k ∧ k < w'.heap.size) : HasX Y w0 w' b d := by
  obtain ⟨S, h1, h2, h3, h4⟩ := h
  refine ⟨S, h1.nw hw, h2.trans hw, h3, fun k hk => ?_⟩
  rcases hy k hk with h | ⟨h, h'⟩
  · exact ⟨Nat.lt_of_lt_of_le (h4 k h).1 hw.size, (h4 k h).2⟩
  · exact ⟨h', fun hs => by have := h1.lt k hs; omega⟩
theorem HasX.put {Z : Nat → Prop} (h : HasX X w0 w b d) (hw : Only Z w w') (hz : ∀ k, Z k → k < w.heap.size → X k ∧ w0.heap.size ≤ k) (hy : ∀ k, Y k → X k ∨ w.heap.size ≤ k ∧ k < w'.heap.size) : HasX Y w0 w' b d := by
  obtain ⟨S, h1, h2, h3, h4⟩ := h
  refine ⟨S, ?_, ?_, h3, fun k hk => ?_⟩
  · exact h1.keep hw fun k hk hzk => (h4 k (hz k hzk (h1.lt k hk)).1).2 hk
  · exact h2.trans' hw fun k hk hzk => by have := (hz k hzk (Nat.lt_of_lt_of_le hk h2.size)).2; omega
  · rcases hy k hk with h | ⟨h, h'⟩
    · exact ⟨Nat.lt_of_lt_of_le (h4 k h).1 hw.size, (h4 k h).2⟩
    · exact ⟨h', fun hs => by have := h1.lt k hs; omega⟩
theorem HasX.alloc (h : HasX X w0 w b d) (o : Obj) : HasX (fun k => X k ∨ k = w.heap.size) w0 (w.alloc o) b d :=
  h.nwY ((Nw.refl w).alloc o) fun k hk => hk.imp id (fun e => by subst e; simp)
theorem HasX.turn {S : Nat → Prop} (_hD : DiskIn w b d S) (hN : Nw w0 w) (hS : ∀ k, S k → w0.heap.size ≤ k) (hX : ∀ k, X k → k < w.heap.size ∧ ¬ S k) (h : DiskTo S w w' b d') : HasX X w0 w' b d' ∧ Kept X w w' := by
  obtain ⟨S', h1, h2, h3⟩ := h
  refine ⟨⟨S', h1, hN.trans' h2 (fun k hk hs => ?_), fun k hk => ?_, fun k hk => ⟨Nat.lt_of_lt_of_le (hX k hk).1 h2.size, fun hs => ?_⟩⟩, h2.size, fun k hk hl => h2.block k hl (hX k hk).2⟩
  · have := hS k hs; omega
  · rcases h3 k hk with h | h
    · exact hS k h
    · have := hN.size; omega
  · rcases h3 k hs with h | h
    · exact (hX k hk).2 h
    · have := (hX k hk).1; omega
theorem HasX.new (most : Int) (w : World) (h0 : 0 ≤ most) (h1 : most ≤ 16777216) : Calls Tryz.prog 22 #[.int .i64 most] w fun e w' => ∃ b, e = .returned (.tuple #[.pointer (some ⟨b, 0, none⟩), .int .i64 0]) ∧ HasX (fun _ => False) w w' b (newDsk most) :=
  (Has.new most w h0 h1).mono fun _ _ ⟨b, he, h⟩ => ⟨b, he, h.hasX⟩

theorem HasX.append (h : HasX X w0 w b d) (n : Str) (l : List UInt8) (src : Value) (hs : Bs w src l) (hg : l ≠ [] → ∀ g, src.ownBlock = some g → X g ∨ g < w0.heap.size) (hnl : n.length ≤ 9223372036854775807) (hll : l.length ≤ 140737488355328) {x : Int} (hr : d.append n l = (d', x)) :
    Calls Tryz.prog 38 #[.pointer (some ⟨b, 0, none⟩), .string ⟨n.toArray⟩, src] w (DidX X w0 w b d' (.int .i64 x)) := by
  obtain ⟨S, h1, h2, h3, h4⟩ := h
  have := Append_ok h1 n l src hs (fun hne g hg' hS => by
    rcases hg hne g hg' with h | h
    · exact (h4 g h).2 hS
    · have := h3 g hS; omega) hnl hll
  rw [hr] at this
  exact this.mono fun e w' ⟨he, ht⟩ => ⟨he, HasX.turn h1 h2 h3 h4 ht⟩
theorem HasX.sync (h : HasX X w0 w b d) (n : Str) {x : Int} (hr : d.sync n = (d', x)) :
    Calls Tryz.prog 78 #[.pointer (some ⟨b, 0, none⟩), .string ⟨n.toArray⟩] w (DidX X w0 w b d' (.int .i64 x)) := by
  obtain ⟨S, h1, h2, h3, h4⟩ := h
  have := Sync_ok h1 n
  rw [hr] at this
  exact this.mono fun e w' ⟨he, ht⟩ => ⟨he, HasX.turn h1 h2 h3 h4 ht⟩
theorem HasX.remove (h : HasX X w0 w b d) (n : Str) {x : Int} (hr : d.remove n = (d', x)) :
    Calls Tryz.prog 57 #[.pointer (some ⟨b, 0, none⟩), .string ⟨n.toArray⟩] w (DidX X w0 w b d' (.int .i64 x)) := by
  obtain ⟨S, h1, h2, h3, h4⟩ := h
  have := Remove_ok h1 n
  rw [hr] at this
  exact this.mono fun e w' ⟨he, ht⟩ => ⟨he, HasX.turn h1 h2 h3 h4 ht⟩
theorem HasX.rename (h : HasX X w0 w b d) (n t : Str) (htl : t.length ≤ 9223372036854775807) {x : Int} (hr : d.rename n t = (d', x)) :
    Calls Tryz.prog 121 #[.pointer (some ⟨b, 0, none⟩), .string ⟨n.toArray⟩, .string ⟨t.toArray⟩] w (DidX X w0 w b d' (.int .i64 x)) := by
  obtain ⟨S, h1, h2, h3, h4⟩ := h
  have := Rename_ok h1 n t htl
  rw [hr] at this
  exact this.mono fun e w' ⟨he, ht⟩ => ⟨he, HasX.turn h1 h2 h3 h4 ht⟩
theorem HasX.cut (h : HasX X w0 w b d) (n : Str) (k : Int) {x : Int} (hr : d.cut n k = (d', x)) :
    Calls Tryz.prog 56 #[.pointer (some ⟨b, 0, none⟩), .string ⟨n.toArray⟩, .int .i64 k] w (DidX X w0 w b d' (.int .i64 x)) := by
  obtain ⟨S, h1, h2, h3, h4⟩ := h
  have := Cut_ok h1 n k
  rw [hr] at this
  exact this.mono fun e w' ⟨he, ht⟩ => ⟨he, HasX.turn h1 h2 h3 h4 ht⟩
theorem HasX.arm (h : HasX X w0 w b d) (k : Int) (hk : k ≤ 9223372036854775807) (hr : d.armed k = d') :
    Calls Tryz.prog 13 #[.pointer (some ⟨b, 0, none⟩), .int .i64 k] w (DidX X w0 w b d' (.tuple #[])) := by
  obtain ⟨S, h1, h2, h3, h4⟩ := h
  have := Arm_ok h1 k hk
  rw [hr] at this
  exact this.mono fun e w' ⟨he, ht⟩ => ⟨he, HasX.turn h1 h2 h3 h4 ht⟩
theorem HasX.crash (h : HasX X w0 w b d) (v : Value) (ks : List Int) (hs : Rd i64v w v ks) (hg : ks ≠ [] → ∀ g, v.ownBlock = some g → X g ∨ g < w0.heap.size) (hr : d.crash ks = d') :
    Calls Tryz.prog 34 #[.pointer (some ⟨b, 0, none⟩), v] w (DidX X w0 w b d' (.tuple #[])) := by
  obtain ⟨S, h1, h2, h3, h4⟩ := h
  have := Crash_ok h1 v ks hs (fun hne g hg' hS => by
    rcases hg hne g hg' with h | h
    · exact (h4 g h).2 hS
    · have := h3 g hS; omega)
  rw [hr] at this
  exact this.mono fun e w' ⟨he, ht⟩ => ⟨he, HasX.turn h1 h2 h3 h4 ht⟩
theorem HasX.size (h : HasX X w0 w b d) (n : Str) {k : Nat} (hk : (fileOf d.files n).bytes.length = k) :
    Calls Tryz.prog 41 #[.pointer (some ⟨b, 0, none⟩), .string ⟨n.toArray⟩] w fun e w' => e = .returned (.int .i64 k) ∧ Nw w w' := by
  obtain ⟨S, h1, -⟩ := h
  subst hk; exact Size_ok h1 n
theorem HasX.synced (h : HasX X w0 w b d) (n : Str) {k : Nat} (hk : (fileOf d.files n).synced = k) :
    Calls Tryz.prog 52 #[.pointer (some ⟨b, 0, none⟩), .string ⟨n.toArray⟩] w fun e w' => e = .returned (.int .i64 k) ∧ Nw w w' := by
  obtain ⟨S, h1, -⟩ := h
  subst hk; exact Synced_ok h1 n
theorem HasX.used (h : HasX X w0 w b d) {k : Nat} (hk : usedF d.files = k) :
    Calls Tryz.prog 50 #[.pointer (some ⟨b, 0, none⟩)] w fun e w' => e = .returned (.int .i64 k) ∧ Nw w w' := by
  obtain ⟨S, h1, -⟩ := h
  subst hk; exact Used_ok h1
theorem HasX.down (h : HasX X w0 w b d) {x : Bool} (hx : d.down = x) :
    Calls Tryz.prog 49 #[.pointer (some ⟨b, 0, none⟩)] w fun e w' => e = .returned (.bool x) ∧ w = w' := by
  obtain ⟨S, h1, -⟩ := h
  subst hx; exact Down_ok h1
theorem HasX.read (h : HasX X w0 w b d) (n : Str) {l : List UInt8} {x : Int} (hr : d.read n = (l, x)) :
    Calls Tryz.prog 53 #[.pointer (some ⟨b, 0, none⟩), .string ⟨n.toArray⟩] w fun e w' => ∃ v, e = .returned (.tuple #[v, .int .i64 x]) ∧ Own w' v l ∧ Nw w w' ∧ ∀ g, v.ownBlock = some g → w.heap.size ≤ g := by
  obtain ⟨S, h1, -⟩ := h
  have := Read_ok h1 n
  rw [hr] at this
  exact this
theorem HasX.list (h : HasX X w0 w b d) {l : List Str} (hl : d.list = l) :
    Calls Tryz.prog 43 #[.pointer (some ⟨b, 0, none⟩)] w fun e w' => ∃ v, e = .returned v ∧ Ss w' v l ∧ Nw w w' ∧ ∀ g, v.ownBlock = some g → w.heap.size ≤ g := by
  obtain ⟨S, h1, -⟩ := h
  have := List_ok h1
  rw [hl] at this
  exact this
def Two (X : Nat → Prop) (w0 w : World) (a : Nat) (da : Dsk) (b : Nat) (db : Dsk) : Prop :=
  ∃ S T, DiskIn w a da S ∧ DiskIn w b db T ∧ Nw w0 w ∧ (∀ k, S k → w0.heap.size ≤ k) ∧ (∀ k, T k → w0.heap.size ≤ k) ∧ (∀ k, S k → ¬ T k) ∧ ∀ k, X k → k < w.heap.size ∧ ¬ S k ∧ ¬ T k
variable {a : Nat} {da da' db : Dsk}
theorem Two.symm (h : Two X w0 w a da b db) : Two X w0 w b db a da := by
  obtain ⟨S, T, h1, h2, h3, h4, h5, h6, h7⟩ := h
  exact ⟨T, S, h2, h1, h3, h5, h4, fun k hk hs => h6 k hs hk, fun k hk => ⟨(h7 k hk).1, (h7 k hk).2.2, (h7 k hk).2.1⟩⟩
theorem Two.fst (h : Two X w0 w a da b db) : HasX X w0 w a da := by
  obtain ⟨S, T, h1, h2, h3, h4, h5, h6, h7⟩ := h
  exact ⟨S, h1, h3, h4, fun k hk => ⟨(h7 k hk).1, (h7 k hk).2.1⟩⟩
theorem Two.base (h : Two X w0 w a da b db) : Nw w0 w := h.fst.base
theorem Two.nw (h : Two X w0 w a da b db) (hw : Nw w w') : Two X w0 w' a da b db := by
  obtain ⟨S, T, h1, h2, h3, h4, h5, h6, h7⟩ := h
  exact ⟨S, T, h1.nw hw, h2.nw hw, h3.trans hw, h4, h5, h6, fun k hk => ⟨Nat.lt_of_lt_of_le (h7 k hk).1 hw.size, (h7 k hk).2⟩⟩
theorem Two.weak (h : Two X w0 w a da b db) (hy : ∀ k, Y k → X k) : Two Y w0 w a da b db := by
  obtain ⟨S, T, h1, h2, h3, h4, h5, h6, h7⟩ := h
  exact ⟨S, T, h1, h2, h3, h4, h5, h6, fun k hk => h7 k (hy k hk)⟩
theorem Two.put {Z : Nat → Prop} (h : Two X w0 w a da b db) (hw : Only Z w w') (hz : ∀ k, Z k → k < w.heap.size → X k ∧ w0.heap.size ≤ k) (hy : ∀ k, Y k → X k ∨ w.heap.size ≤ k ∧ k < w'.heap.size) : Two Y w0 w' a da b db := by
  obtain ⟨S, T, h1, h2, h3, h4, h5, h6, h7⟩ := h
  refine ⟨S, T, ?_, ?_, ?_, h4, h5, h6, fun k hk => ?_⟩
  · exact h1.keep hw fun k hk hzk => (h7 k (hz k hzk (h1.lt k hk)).1).2.1 hk
  · exact h2.keep hw fun k hk hzk => (h7 k (hz k hzk (h2.lt k hk)).1).2.2 hk
  · exact h3.trans' hw fun k hk hzk => by have := (hz k hzk (Nat.lt_of_lt_of_le hk h3.size)).2; omega
  · rcases hy k hk with h | ⟨h, h'⟩
    · exact ⟨Nat.lt_of_lt_of_le (h7 k h).1 hw.size, (h7 k h).2⟩
    · exact ⟨h', fun hs => by have := h1.lt k hs; omega, fun hs => by have := h2.lt k hs; omega⟩
theorem Two.nwY (h : Two X w0 w a da b db) (hw : Nw w w') (hy : ∀ k, Y k → X k ∨ w.heap.size ≤ k ∧ k < w'.heap.size) : Two Y w0 w' a da b db :=
  h.put hw (fun _ hf => hf.elim) hy
def DidTwo (X : Nat → Prop) (w0 w : World) (a : Nat) (da' : Dsk) (b : Nat) (db : Dsk) (v : Value) (e : Ending) (w' : World) : Prop := e = .returned v ∧ Two X w0 w' a da' b db ∧ Kept X w w'
theorem Two.step {P : Program} {f : FuncId} {args : Array Value} {v : Value} (h : Two X w0 w a da b db)
    (hop : ∀ Y : Nat → Prop, (∀ k, X k → Y k) → HasX Y w0 w a da → Calls P f args w (DidX Y w0 w a da' v)) : Calls P f args w (DidTwo X w0 w a da' b db v) := by
  obtain ⟨S, T, h1, h2, h3, h4, h5, h6, h7⟩ := h
  refine (hop (fun k => X k ∨ T k) (fun k hk => .inl hk) ⟨S, h1, h3, h4, fun k hk => ?_⟩).mono ?_
  · rcases hk with hk | hk
    · exact ⟨(h7 k hk).1, (h7 k hk).2.1⟩
    · exact ⟨h2.lt k hk, fun hs => h6 k hs hk⟩
  · rintro e w' ⟨rfl, ⟨S', g1, g2, g3, g4⟩, hk⟩
    refine ⟨rfl, ⟨S', T, g1, ?_, g2, g3, h5, fun k hs ht => (g4 k (.inr ht)).2 hs, fun k hx => ⟨(g4 k (.inl hx)).1, (g4 k (.inl hx)).2, (h7 k hx).2.2⟩⟩, hk.weak fun k hx => .inl hx⟩
    obtain ⟨m, fs, e1, e2⟩ := h2
    exact ⟨m, fs, e1.keep fun k hk' => hk.2 k (.inr ((e2 k).2 hk')) (e1.lt k hk'), e2⟩
end
end Go.Proofs.YtkbenkldfehhlaaGreatDoor

namespace Go.Proofs.YtkbenkldfehhlaaGreatDoor
open Go Go.RowKit

theorem addr_add (g o n : Nat) : (⟨g, o, none⟩ : Addr).add n = ⟨g, o + n, none⟩ := by
  unfold Addr.add
  split
  · rename_i h; subst h; rfl
  · rfl
def SrcV (k : Nat) (w : World) (v : Value) (n : Nat) (cs : List Value) : Prop :=
  cs.length = n * k ∧ ((∃ a, v = .slice a 0 0 ∧ n = 0) ∨ ∃ g o cap, v = .slice (some ⟨g, o, none⟩) n cap ∧ n ≤ cap ∧ cap ≤ maxLen ∧ g < w.heap.size ∧ ∀ j (h : j < cs.length), w.cell? ⟨g, o + j, none⟩ = some cs[j])
def Vec (k : Nat) (w : World) (v : Value) (n : Nat) (cs : List Value) : Prop :=
  cs.length = n * k ∧ ((v = .slice none 0 0 ∧ n = 0) ∨ ∃ g o cap, v = .slice (some ⟨g, o, none⟩) n cap ∧ n ≤ cap ∧ cap ≤ maxLen ∧ g < w.heap.size ∧
    (∀ j, j < cap * k → (w.cell? ⟨g, o + j, none⟩).isSome = true) ∧ (∀ j, j < cap * k → w.frozen? ⟨g, o + j, none⟩ = false) ∧ ∀ j (h : j < cs.length), w.cell? ⟨g, o + j, none⟩ = some cs[j])

section
variable {k n : Nat} {w w' : World} {v : Value} {cs : List Value}
theorem Vec.src (h : Vec k w v n cs) : SrcV k w v n cs := by
  obtain ⟨h0, ⟨rfl, h⟩ | ⟨g, o, cap, rfl, h1, h2, h3, -, -, h6⟩⟩ := h
  · exact ⟨h0, .inl ⟨_, rfl, h⟩⟩
  · exact ⟨h0, .inr ⟨g, o, cap, rfl, h1, h2, h3, h6⟩⟩
theorem Vec.nil {k : Nat} {w : World} : Vec k w (.slice none 0 0) 0 [] := ⟨by simp, .inl ⟨rfl, rfl⟩⟩
theorem Vec.lt (h : Vec k w v n cs) : ∀ g, v.ownBlock = some g → g < w.heap.size := by
  obtain ⟨-, ⟨rfl, -⟩ | ⟨g, o, cap, rfl, -, -, h3, -⟩⟩ := h
  · intro g hg; cases hg
  · intro g' hg; cases hg; exact h3
theorem Vec.keep (h : Vec k w v n cs) (hs : w.heap.size ≤ w'.heap.size) (hb : ∀ g, v.ownBlock = some g → w'.heap[g]? = w.heap[g]?) : Vec k w' v n cs := by
  obtain ⟨h0, h | ⟨g, o, cap, rfl, h1, h2, h3, h4, h5, h6⟩⟩ := h
  · exact ⟨h0, .inl h⟩
  · have hg := hb g rfl
    refine ⟨h0, .inr ⟨g, o, cap, rfl, h1, h2, Nat.lt_of_lt_of_le h3 hs, fun j hj => ?_, fun j hj => ?_, fun j hj => ?_⟩⟩
    · rw [World.cell?_of_block (w := w) hg]; exact h4 j hj
    · rw [World.frozen?_of_block (w := w) hg]; exact h5 j hj
    · rw [World.cell?_of_block (w := w) hg]; exact h6 j hj
theorem Vec.nw (h : Vec k w v n cs) (hw : Nw w w') : Vec k w' v n cs := h.keep hw.size fun g hg => hw.block g (h.lt g hg) (fun hf => hf)
theorem Vec.len (h : Vec k w v n cs) : ∃ a cap, v = .slice a n cap ∧ n ≤ cap ∧ cap ≤ maxLen := by
  obtain ⟨-, ⟨rfl, rfl⟩ | ⟨g, o, cap, rfl, h1, h2, -⟩⟩ := h
  · exact ⟨_, _, rfl, by simp, by simp⟩
  · exact ⟨_, _, rfl, h1, h2⟩
theorem SrcV.nw (h : SrcV k w v n cs) (hw : Nw w w') : SrcV k w' v n cs := by
  obtain ⟨h0, h | ⟨g, o, cap, rfl, h1, h2, h3, h6⟩⟩ := h
  · exact ⟨h0, .inl h⟩
  · exact ⟨h0, .inr ⟨g, o, cap, rfl, h1, h2, Nat.lt_of_lt_of_le h3 hw.size, fun j hj => hw.cell (h6 j hj)⟩⟩
theorem SrcV.len (h : SrcV k w v n cs) : ∃ a cap, v = .slice a n cap ∧ n ≤ cap ∧ cap ≤ maxLen := by
  obtain ⟨-, ⟨a, rfl, rfl⟩ | ⟨g, o, cap, rfl, h1, h2, -⟩⟩ := h
  · exact ⟨_, _, rfl, by simp, by simp⟩
  · exact ⟨_, _, rfl, h1, h2⟩
theorem Vec.rd {α : Type} {f : α → Value} {l : List α} (h : Vec 1 w v l.length (l.map f)) : Rd f w v l := by
  obtain ⟨-, ⟨rfl, hn⟩ | ⟨g, o, cap, rfl, h1, h2, h3, h4, -, h6⟩⟩ := h
  · exact .inl ⟨_, rfl, List.eq_nil_of_length_eq_zero hn⟩
  · refine .inr ⟨g, o, cap, rfl, h1, h2, h3, fun i hi => ?_⟩
    have := h6 i (by simpa using hi)
    simpa using this
theorem SrcV.of_rd {α : Type} {f : α → Value} {l : List α} (h : Rd f w v l) : SrcV 1 w v l.length (l.map f) := by
  rcases h with ⟨a, rfl, rfl⟩ | ⟨g, o, cap, rfl, h1, h2, hg, h3⟩
  · exact ⟨by simp, .inl ⟨_, rfl, rfl⟩⟩
  · refine ⟨by simp, .inr ⟨g, o, cap, rfl, h1, h2, hg, fun j hj => ?_⟩⟩
    have := h3 j (by simpa using hj)
    simpa using this
theorem Vec.of_owns {base e : Nat} (h : w.ownsRow base e k v n cs) : Vec k w v n cs ∧ ∀ g, v.ownBlock = some g → base ≤ g := by
  obtain ⟨h0, ⟨rfl, hn⟩ | ⟨g, cap, cur, rfl, hb, h1, h2, h3, h4, h5⟩⟩ := h
  · exact ⟨⟨h0, .inl ⟨rfl, hn⟩⟩, fun g hg => by cases hg⟩
  · refine ⟨⟨h0, .inr ⟨g, 0, cap, rfl, h2, h3, lt_of_block h1, fun j hj => ?_, fun j hj => ?_, fun j hj => ?_⟩⟩, fun g' hg => by cases hg; exact hb⟩
    · have : j < cur.size := by omega
      simp [World.cell?, h1, this]
    · simp [World.frozen?, h1]
    · have e : cur.toList[j]? = cs[j]? := by rw [← h5, List.getElem?_take]; rw [if_pos (by omega)]
      have e2 : cur[j]? = some cs[j] := by
        have : cur.toList[j]? = cur[j]? := by simp
        rw [← this, e]; simp
      simp [World.cell?, h1, e2]
theorem Only.setCells {S : Nat → Prop} {b : Nat} : ∀ (vs : List Value) (o : Nat) (w : World), (b < w.heap.size → S b) → Only S w (w.setCells b o vs)
  | [], _, w, _ => Only.refl w
  | u :: r, o, w, hb => by
    rw [World.setCells]
    exact ((Only.refl w).setCell (p := ⟨b, o, none⟩) hb u).trans (Only.setCells r (o + 1) _ (fun h => hb (by simpa using h)))

theorem run_append_vec {P : Program} (t ty e : TypeId) (i : TypeInfo) (z : Value) (size bytes : Nat) (ht : P.underlying t = some (.slice e)) (hi : P.info? e = some i) (hz : i.zero = some z)
    (hsize : i.size = size) (hby : i.bytes = bytes) (hzs : z.cells.size = size) (hsz : 0 < size) {x : Value} {m : Nat} {news : List Value} (hv : Vec size w v n cs) (hx : SrcV size w x m news) (h1 : ∀ u ∈ news, u.oneCell' = true)
    (h63 : n + m ≤ maxLen) (hbytes : (n + m) * bytes ≤ 140737488355328) :
    ∃ v' w', (Builtin.append_ #[t, t] ty #[v, x]).run P w = .ok v' w' ∧ Vec size w' v' (n + m) (cs ++ news) ∧ Only (fun b => v.ownBlock = some b) w w' ∧
      (v'.ownBlock = v.ownBlock ∨ ∀ g, v'.ownBlock = some g → w.heap.size ≤ g) := by
  have hv0 := hv
  obtain ⟨hxl, ⟨ax, rfl, rfl⟩ | ⟨gx, ox, cx, rfl, hx1, hx2, hx3, hx4⟩⟩ := hx
  · obtain rfl : news = [] := List.eq_nil_of_length_eq_zero (by simpa using hxl)
    refine ⟨v, w, ?_, by simpa using hv, Only.refl _, .inl rfl⟩
    obtain ⟨-, ⟨rfl, rfl⟩ | ⟨g, o, cap, rfl, h2, -⟩⟩ := hv
    · cases ax <;> simp [Builtin.append_, run_underlying ht, sizeOf, typeInfo, hi, Builtin.lenOf, Builtin.firstCells, loadCells, loadCellsFrom]
    · cases ax <;> simp [Builtin.append_, run_underlying ht, sizeOf, typeInfo, hi, Builtin.lenOf, Builtin.firstCells, h2, storeCells, loadCells, loadCellsFrom]
  · have hnews : ∀ j u, news[j]? = some u → w.cell? ((⟨gx, ox, none⟩ : Addr).add j) = some u := by
      intro j u hj
      obtain ⟨hlt, he⟩ := List.getElem?_eq_some_iff.1 hj
      rw [addr_add, hx4 j hlt, he]
    obtain ⟨hvl, ⟨rfl, rfl⟩ | ⟨g, o, cap, rfl, g1, g2, g3, g4, g5, g6⟩⟩ := hv
    · obtain rfl : cs = [] := List.eq_nil_of_length_eq_zero (by simpa using hvl)
      obtain ⟨v', w', hr, ho, hg, -⟩ := run_append_own (P := P) w w.heap.size t ty e i z size bytes ht hi hz hsize hby hzs hsz _ 0 [] (World.ownsRow_nil w w.heap.size e size) ⟨gx, ox, none⟩ m cx news hxl hnews h1 (by simpa using h63) (by simpa using hbytes) (Nat.le_refl _)
      obtain ⟨hV, hf⟩ := Vec.of_owns ho
      exact ⟨v', w', hr, hV, (Only.refl w).grown hg (fun k hk _ => hk), .inr hf⟩
    · have holds : ∀ j u, cs[j]? = some u → w.cell? ((⟨g, o, none⟩ : Addr).add j) = some u := by
        intro j u hj
        obtain ⟨hlt, he⟩ := List.getElem?_eq_some_iff.1 hj
        rw [addr_add, g6 j hlt, he]
      by_cases hroom : n + m ≤ cap
      · have hfit : (n + m) * size ≤ cap * size := Nat.mul_le_mul_right _ hroom
        rw [Nat.add_mul] at hfit
        have c1 : ∀ j, j < news.length → (w.cell? ⟨g, o + n * size + j, none⟩).isSome = true := fun j hj => by
          rw [Nat.add_assoc]; exact g4 _ (by omega)
        have c2 : ∀ j, j < news.length → w.frozen? ⟨g, o + n * size + j, none⟩ = false := fun j hj => by
          rw [Nat.add_assoc]; exact g5 _ (by omega)
        have hr := run_append_room_cells (P := P) (w := w) t ty e i ht hi g o n cap ⟨gx, ox, none⟩ m cx news (by rw [hsize]; exact hxl) hnews h1 hroom (by rw [hsize]; exact c1) (by rw [hsize]; exact c2)
        rw [hsize] at hr
        have hO : Only (fun b => (Value.slice (some ⟨g, o, none⟩) n cap).ownBlock = some b) w (w.setCells g (o + n * size) news) := Only.setCells news _ w (fun _ => rfl)
        refine ⟨_, _, hr, ⟨by rw [List.length_append, hvl, hxl, Nat.add_mul], .inr ⟨g, o, cap, rfl, hroom, g2, Nat.lt_of_lt_of_le g3 hO.size, fun j hj => ?_, fun j hj => ?_, fun j hj => ?_⟩⟩, hO, .inl rfl⟩
        · by_cases hin : n * size ≤ j ∧ j < n * size + news.length
          · have := World.cell?_setCells_in g news (o + n * size) w c1 (j - n * size) (by omega)
            rw [show o + n * size + (j - n * size) = o + j by omega] at this
            rw [this]; rfl
          · rw [World.cell?_setCells_out g news (o + n * size) w ⟨g, o + j, none⟩ (fun _ _ => by show o + j < o + n * size ∨ o + n * size + news.length ≤ o + j; omega)]
            exact g4 j hj
        · rw [World.frozen?_setCells]; exact g5 j hj
        · by_cases hin : j < cs.length
          · rw [World.cell?_setCells_out g news (o + n * size) w ⟨g, o + j, none⟩ (fun _ _ => by show o + j < o + n * size ∨ o + n * size + news.length ≤ o + j; omega), g6 j hin, List.getElem_append_left hin]
          · have hj' : j < cs.length + news.length := by simpa using hj
            have := World.cell?_setCells_in g news (o + n * size) w c1 (j - n * size) (by omega)
            rw [show o + n * size + (j - n * size) = o + j by omega] at this
            rw [this, List.getElem_append_right (by omega)]
            congr 2
            omega
      · obtain ⟨v', w', hr, ho, hg⟩ := run_append_arg_grows (P := P) (w := w) t ty e i z size bytes ht hi hz hsize hby hzs hsz ⟨g, o, none⟩ n cap cs hvl holds ⟨gx, ox, none⟩ m cx news hxl hnews (by omega) h63 hbytes
        obtain ⟨hV, hf⟩ := Vec.of_owns ho
        exact ⟨v', w', hr, hV, (Only.refl w).grown hg (fun k hk _ => by cases hk), .inr hf⟩

theorem wpList_append_vec {P : Program} {ops : Array Oper} {rest : List Oper} {o : Oper} {a : Act} {Q : Exit → Act → World → Prop} (hgd : o.guard = none) (s x : Operand) (t : TypeId)
    (ho : o.op = .call { callee := .builtin .append, args := #[s, x], argTypes := #[t, t] })
    (e : TypeId) (i : TypeInfo) (z : Value) (size bytes : Nat) (ht : P.underlying t = some (.slice e)) (hi : P.info? e = some i) (hz : i.zero = some z) (hsize : i.size = size) (hby : i.bytes = bytes) (hzs : z.cells.size = size) (hsz : 0 < size)
    {src : Value} {m : Nat} {news : List Value} (hs : a.eval s = v) (hx : a.eval x = src) (hv : Vec size w v n cs) (hsrc : SrcV size w src m news) (h1 : ∀ u ∈ news, u.oneCell' = true)
    (hlen : n + m ≤ maxLen) (hbytes : (n + m) * bytes ≤ 140737488355328)
    (h : ∀ v' w', Vec size w' v' (n + m) (cs ++ news) → Only (fun k => v.ownBlock = some k) w w' → (v'.ownBlock = v.ownBlock ∨ ∀ g, v'.ownBlock = some g → w.heap.size ≤ g) →
      wpList P ops Q rest (a.put o.dst v') w') : wpList P ops Q (o :: rest) a w := by
  obtain ⟨v', w', hr, h2, h3, h4⟩ := run_append_vec (P := P) (w := w) t o.type e i z size bytes ht hi hz hsize hby hzs hsz hv hsrc h1 hlen hbytes
  refine wpList_plain hgd fun K hK => ?_
  unfold Oper.wp execOp
  simp only [ho, resolve, invoke, builtin, Sem.run_bind, Sem.run_pure, Result.andThen_ok, List.map_toArray, List.map_cons, List.map_nil, hs, hx, hr]
  exact hK _ _ (h v' w' h2 h3 h4)
theorem src_lit (w : World) (t : TypeId) (fz : Nat × Nat) (k n c : Nat) (cs : List Value) (hk : cs.length = n * k) (hn : n ≤ c) (hc : c ≤ maxLen) :
    SrcV k (w.alloc (.cells cs.toArray t fz)) (.slice (some ⟨w.heap.size, 0, none⟩) n c) n cs := by
  refine ⟨hk, .inr ⟨w.heap.size, 0, c, rfl, hn, hc, by simp, fun j hj => ?_⟩⟩
  have : (w.alloc (.cells cs.toArray t fz)).heap[w.heap.size]? = some (.cells cs.toArray t fz) := heap_alloc_new w _
  unfold World.cell?
  rw [show (⟨w.heap.size, 0 + j, none⟩ : Addr).block = w.heap.size from rfl, this]
  simp [hj]
theorem Vec.of_conv (w : World) (e : TypeId) (s : List UInt8) (hs : s.length ≤ maxLen) : Vec 1 (Lib.bytesWorld w e ⟨s.toArray⟩) (.slice (some ⟨w.heap.size, 0, none⟩) s.length (grownCap w s.length 0 e)) s.length (s.map fun c => Value.int .u8 c.toNat) ∧ Nw w (Lib.bytesWorld w e ⟨s.toArray⟩) := by
  have hge := grownCap_ge w s.length 0 e
  have hcm := grownCap_le_maxLen w s.length 0 e hs
  have hb := Lib.bytesWorld_at_new w e ⟨s.toArray⟩
  have hcs : (Lib.bytesCells w e ⟨s.toArray⟩).size = grownCap w s.length 0 e := by
    simp only [Lib.bytesCells, Array.size_append, Array.size_map, List.size_toArray, Array.size_replicate]
    show s.length + (grownCap w s.length 0 e - s.length) = _
    omega
  refine ⟨⟨by simp, .inr ⟨w.heap.size, 0, _, rfl, hge, hcm, by rw [Lib.bytesWorld_size]; omega, fun j hj => ?_, fun j hj => ?_, fun j hj => ?_⟩⟩, ?_⟩
  · have : j < (Lib.bytesCells w e ⟨s.toArray⟩).size := by rw [hcs]; simpa using hj
    simp [World.cell?, hb, this]
  · have : j < (Lib.bytesCells w e ⟨s.toArray⟩).size := by rw [hcs]; simpa using hj
    simp only [World.frozen?, hb, Nat.zero_add]
    simp; omega
  · have hj' : j < s.length := by simpa using hj
    have := Lib.bytesWorld_cell w e ⟨s.toArray⟩ j (by simpa [ByteArray.size] using hj')
    rw [Nat.zero_add, this]
    simp [List.getD, hj']
  · refine ⟨rfl, rfl, rfl, by rw [Lib.bytesWorld_size]; omega, fun k hk _ => Lib.bytesWorld_at_old w e ⟨s.toArray⟩ k hk⟩
end
end Go.Proofs.YtkbenkldfehhlaaGreatDoor

namespace Go.Proofs.YtkbenkldfehhlaaGreatDoor
open Go Go.RowKit Go.Sort

theorem getF_setF (L : List (Str × DFile)) (n m : Str) (f : DFile) : getF (setF L n f) m = if n = m then some f else getF L m := by
  induction L with
  | nil => simp [setF, getF]
  | cons x L ih =>
    obtain ⟨k, g⟩ := x
    by_cases hk : k = n
    · subst hk
      by_cases hm : k = m
      · simp [setF, getF, hm]
      · simp [setF, getF, hm]
    · by_cases hm : k = m
      · subst hm
        simp [setF, getF, hk, Ne.symm hk]
      · simp [setF, getF, hk, hm, ih]
theorem fileOf_setF (L : List (Str × DFile)) (n m : Str) (f : DFile) : fileOf (setF L n f) m = if n = m then f else fileOf L m := by
  unfold fileOf
  rw [getF_setF]
  split <;> rfl
theorem getF_none (L : List (Str × DFile)) (n : Str) : getF L n = none ↔ n ∉ namesF L := by
  induction L with
  | nil => simp [getF, namesF]
  | cons x L ih =>
    obtain ⟨k, g⟩ := x
    by_cases hk : k = n
    · simp [getF, namesF, hk]
    · simp only [getF, hk, if_false, ih, namesF, List.map_cons, List.mem_cons, not_or]
      exact ⟨fun h => ⟨fun e => hk e.symm, h⟩, fun h => h.2⟩
theorem getF_some_mem {L : List (Str × DFile)} {n : Str} {f : DFile} (h : getF L n = some f) : (n, f) ∈ L := by
  induction L with
  | nil => simp [getF] at h
  | cons x L ih =>
    obtain ⟨k, g⟩ := x
    by_cases hk : k = n
    · simp [getF, hk] at h; subst h; simp [hk]
    · simp [getF, hk] at h; exact List.mem_cons_of_mem _ (ih h)
theorem Dsk.Ok.le {d : Dsk} (ok : d.Ok) (n : Str) : (fileOf d.files n).synced ≤ (fileOf d.files n).bytes.length := by
  unfold fileOf
  cases hg : getF d.files n with
  | none => simp
  | some f => exact ok.synced (n, f) (getF_some_mem hg)
theorem leaves_le (f : DFile) (k : Int) (h : f.synced ≤ f.bytes.length) : (leaves f k).synced = (leaves f k).bytes.length := by
  simp only [leaves, List.length_take]; omega
end Go.Proofs.YtkbenkldfehhlaaGreatDoor

namespace Go.Proofs.YtkbenkldfehhlaaGreatDoor
open Go Go.RowKit Go.Sort

def rwithout (L : List (Str × DFile)) (n : Str) : List (Str × DFile) := L.filter fun x => !(x.1 == n)
def rins (f : Str × DFile) : List (Str × DFile) → List (Str × DFile)
  | [] => [f]
  | x :: L => if f.1 < x.1 then f :: x :: L else x :: rins f L
def rwith (L : List (Str × DFile)) (f : Str × DFile) : List (Str × DFile) := rins f (rwithout L f.1)
def Srt (L : List (Str × DFile)) : Prop := L.Pairwise fun a b => a.1 < b.1

theorem str_tri (a b : Str) : a < b ∨ a = b ∨ b < a := by
  by_cases h1 : a < b
  · exact .inl h1
  · by_cases h2 : b < a
    · exact .inr (.inr h2)
    · exact .inr (.inl (List.le_antisymm (List.not_lt.1 h2) (List.not_lt.1 h1)))

theorem getF_rwithout (L : List (Str × DFile)) (n m : Str) : getF (rwithout L n) m = if n = m then none else getF L m := by
  induction L with
  | nil => simp [rwithout, getF]
  | cons x L ih =>
    obtain ⟨k, f⟩ := x
    unfold rwithout at ih ⊢
    by_cases hk : k = n
    · subst hk
      simp only [List.filter_cons, beq_self_eq_true, Bool.not_true, Bool.false_eq_true, if_false, ih]
      by_cases hm : k = m
      · simp [hm]
      · simp [hm, getF]
    · have hb : (k == n) = false := by simpa using hk
      simp only [List.filter_cons, hb, Bool.not_false, if_true, getF, ih]
      by_cases hm : k = m
      · subst hm; simp [Ne.symm hk]
      · simp [hm]
theorem srt_rwithout {L : List (Str × DFile)} (h : Srt L) (n : Str) : Srt (rwithout L n) := List.Pairwise.filter _ h
theorem not_rwithout (L : List (Str × DFile)) (n : Str) : n ∉ namesF (rwithout L n) := by
  rw [← getF_none, getF_rwithout, if_pos rfl]
theorem getF_rins (f : Str × DFile) (m : Str) : ∀ L : List (Str × DFile), f.1 ∉ namesF L → getF (rins f L) m = if f.1 = m then some f.2 else getF L m
  | [], _ => by obtain ⟨n, g⟩ := f; simp [rins, getF]
  | (k, g) :: L, h => by
    obtain ⟨n, e⟩ := f
    simp only [namesF, List.map_cons, List.mem_cons, not_or] at h
    unfold rins
    split
    · simp [getF]
    · simp only [getF]
      rw [getF_rins (n, e) m L h.2]
      by_cases hk : k = m
      · subst hk; simp [h.1]
      · simp [hk]
theorem mem_rins (f x : Str × DFile) : ∀ L : List (Str × DFile), x ∈ rins f L ↔ x = f ∨ x ∈ L
  | [] => by simp [rins]
  | y :: L => by
    unfold rins
    split
    · simp
    · simp only [List.mem_cons, mem_rins f x L]
      constructor
      · rintro (h | h | h)
        · exact .inr (.inl h)
        · exact .inl h
        · exact .inr (.inr h)
      · rintro (h | h | h)
        · exact .inr (.inl h)
        · exact .inl h
        · exact .inr (.inr h)
theorem srt_rins (f : Str × DFile) : ∀ L : List (Str × DFile), f.1 ∉ namesF L → Srt L → Srt (rins f L)
  | [], _, _ => List.pairwise_singleton _ _
  | x :: L, h, hs => by
    simp only [namesF, List.map_cons, List.mem_cons, not_or] at h
    obtain ⟨h1, h2⟩ := List.pairwise_cons.1 hs
    unfold rins
    split
    · rename_i hlt
      refine List.Pairwise.cons (fun y hy => ?_) hs
      rcases List.mem_cons.1 hy with rfl | hy
      · exact hlt
      · exact List.lt_trans hlt (h1 y hy)
    · rename_i hge
      have hxf : x.1 < f.1 := by
        rcases str_tri x.1 f.1 with h' | h' | h'
        · exact h'
        · exact absurd h'.symm h.1
        · exact absurd h' hge
      refine List.Pairwise.cons (fun y hy => ?_) (srt_rins f L h.2 h2)
      rcases (mem_rins f y L).1 hy with rfl | hy
      · exact hxf
      · exact h1 y hy
theorem getF_rwith (L : List (Str × DFile)) (f : Str × DFile) (m : Str) : getF (rwith L f) m = if f.1 = m then some f.2 else getF L m := by
  unfold rwith
  rw [getF_rins f m _ (not_rwithout L f.1), getF_rwithout]
  split
  · rfl
  · rfl
theorem srt_rwith {L : List (Str × DFile)} (h : Srt L) (f : Str × DFile) : Srt (rwith L f) := srt_rins f _ (not_rwithout L f.1) (srt_rwithout h f.1)
structure RefOf (d r : Dsk) : Prop where
  most : r.most = d.most
  arm : r.arm = d.arm
  down : r.down = d.down
  srt : Srt r.files
  get : ∀ n, getF r.files n = getF d.files n

theorem srt_nodup {L : List (Str × DFile)} (h : Srt L) : (namesF L).Nodup := by
  unfold namesF List.Nodup
  rw [List.pairwise_map]
  exact h.imp fun hab e => by rw [e] at hab; exact List.lt_irrefl _ hab
section
variable {d r : Dsk}
theorem RefOf.file (h : RefOf d r) (n : Str) : fileOf r.files n = fileOf d.files n := by unfold fileOf; rw [h.get]
theorem RefOf.mem (h : RefOf d r) (n : Str) : n ∈ namesF r.files ↔ n ∈ namesF d.files := by
  have h1 := getF_none r.files n
  have h2 := getF_none d.files n
  rw [h.get] at h1
  constructor
  · intro hr; exact Decidable.byContradiction fun hn => (h1.1 (h2.2 hn)) hr
  · intro hd; exact Decidable.byContradiction fun hn => (h2.1 (h1.2 hn)) hd
theorem RefOf.list (ok : d.Ok) (h : RefOf d r) : d.list = namesF r.files := by
  have hp : (namesF r.files).Perm (namesF d.files) := (List.perm_ext_iff_of_nodup (srt_nodup h.srt) ok.names).2 h.mem
  unfold Dsk.list
  rw [← Go.mergeSort_of_perm hp]
  refine List.mergeSort_of_pairwise ?_
  unfold namesF
  rw [List.pairwise_map]
  exact h.srt.imp fun hab => by simpa using List.le_of_lt hab
theorem RefOf.len (ok : d.Ok) (h : RefOf d r) : r.files.length = d.files.length := by
  have hp : (namesF r.files).Perm (namesF d.files) := (List.perm_ext_iff_of_nodup (srt_nodup h.srt) ok.names).2 h.mem
  simpa [namesF] using hp.length_eq
theorem used_names (L : List (Str × DFile)) (hn : (namesF L).Nodup) : usedF L = ((namesF L).map fun n => (fileOf L n).bytes.length).sum := by
  unfold usedF namesF
  rw [List.map_map]
  congr 1
  refine List.map_congr_left fun x hx => ?_
  obtain ⟨n, f⟩ := x
  simp only [Function.comp]
  unfold fileOf
  rw [getF_mem hn hx]
  rfl
theorem RefOf.used (ok : d.Ok) (h : RefOf d r) : usedF r.files = usedF d.files := by
  have hp : (namesF r.files).Perm (namesF d.files) := (List.perm_ext_iff_of_nodup (srt_nodup h.srt) ok.names).2 h.mem
  rw [used_names _ (srt_nodup h.srt), used_names _ ok.names]
  have e : (fun n => (fileOf r.files n).bytes.length) = fun n => (fileOf d.files n).bytes.length := by funext n; rw [h.file]
  rw [e]
  exact (hp.map _).sum_nat
theorem ref_op (h : RefOf d r) {may : Int} {act ract : List (Str × DFile) → List (Str × DFile)} (hs : Srt (ract r.files)) (hg : ∀ m, getF (ract r.files) m = getF (act d.files) m) {d' : Dsk} {x : Int} (hr : d.op may act = (d', x)) :
    ∃ r', r.op may ract = (r', x) ∧ RefOf d' r' := by
  unfold Dsk.op at hr ⊢
  rw [h.down, h.arm]
  split at hr
  · obtain ⟨rfl, rfl⟩ := Prod.mk.inj hr
    rename_i hd
    rw [if_pos hd]; exact ⟨r, rfl, h⟩
  · rename_i hd
    rw [if_neg hd]
    split at hr
    · obtain ⟨rfl, rfl⟩ := Prod.mk.inj hr
      rename_i hm
      rw [if_pos hm]; exact ⟨r, rfl, h⟩
    · rename_i hm
      rw [if_neg hm]
      split at hr
      · obtain ⟨rfl, rfl⟩ := Prod.mk.inj hr
        rename_i ha
        rw [if_pos ha]; exact ⟨_, rfl, h.most, rfl, rfl, h.srt, h.get⟩
      · obtain ⟨rfl, rfl⟩ := Prod.mk.inj hr
        rename_i ha
        rw [if_neg ha]; exact ⟨_, rfl, h.most, rfl, rfl, hs, hg⟩
def Dsk.rAppend (r : Dsk) (n : Str) (b : List UInt8) : Dsk × Int := r.op (r.mayAppend n b) fun L => rwith L (n, ⟨(fileOf L n).bytes ++ b, (fileOf L n).synced⟩)
def Dsk.rSync (r : Dsk) (n : Str) : Dsk × Int := r.op (r.there n) fun L => rwith L (n, ⟨(fileOf L n).bytes, (fileOf L n).bytes.length⟩)
def Dsk.rRename (r : Dsk) (a b : Str) : Dsk × Int := r.op (if okName b then r.there a else 13) fun L => rwith (rwithout L a) (b, fileOf L a)
def Dsk.rRemove (r : Dsk) (n : Str) : Dsk × Int := r.op (r.there n) fun L => rwithout L n
def Dsk.rCut (r : Dsk) (n : Str) (k : Int) : Dsk × Int := r.op (r.mayCut n k) fun L => rwith L (n, ⟨(fileOf L n).bytes.take k.toNat, k.toNat⟩)
def rcrashF : List Int → List (Str × DFile) → List (Str × DFile)
  | _, [] => []
  | ks, (n, f) :: L => (n, leaves f (ks.headD 0)) :: rcrashF ks.tail L
def Dsk.rCrash (r : Dsk) (ks : List Int) : Dsk := { r with files := rcrashF ks r.files, arm := -1, down := false }

theorem there_of (h : RefOf d r) (n : Str) : r.there n = d.there n := by
  unfold Dsk.there
  by_cases hn : n ∈ namesF d.files
  · rw [if_pos hn, if_pos ((h.mem n).2 hn)]
  · rw [if_neg hn, if_neg fun h' => hn ((h.mem n).1 h')]
theorem mayAppend_of (ok : d.Ok) (h : RefOf d r) (n : Str) (b : List UInt8) : r.mayAppend n b = d.mayAppend n b := by
  have e : (n ∉ namesF r.files) = (n ∉ namesF d.files) := by rw [h.mem n]
  unfold Dsk.mayAppend
  simp only [h.used ok, h.most, h.len ok, e]
theorem mayCut_of (h : RefOf d r) (n : Str) (k : Int) : r.mayCut n k = d.mayCut n k := by unfold Dsk.mayCut; rw [h.get]
theorem ref_append (ok : d.Ok) (h : RefOf d r) {n : Str} {b : List UInt8} {d' : Dsk} {x : Int} (hr : d.append n b = (d', x)) : ∃ r', r.rAppend n b = (r', x) ∧ RefOf d' r' := by
  unfold Dsk.rAppend
  rw [mayAppend_of ok h]
  exact ref_op h (srt_rwith h.srt _) (fun m => by rw [getF_rwith, getF_setF, h.get, h.file]) hr
theorem ref_sync (h : RefOf d r) {n : Str} {d' : Dsk} {x : Int} (hr : d.sync n = (d', x)) : ∃ r', r.rSync n = (r', x) ∧ RefOf d' r' := by
  unfold Dsk.rSync
  rw [there_of h]
  exact ref_op h (srt_rwith h.srt _) (fun m => by rw [getF_rwith, getF_setF, h.get, h.file]) hr
theorem rgetF_delF (L : List (Str × DFile)) (hn : (namesF L).Nodup) (a m : Str) : getF (delF L a) m = if a = m then none else getF L m := by
  induction L with
  | nil => simp [delF, getF]
  | cons x L ih =>
    obtain ⟨k, g⟩ := x
    simp only [namesF, List.map_cons, List.nodup_cons] at hn
    by_cases hk : k = a
    · subst hk
      by_cases hm : k = m
      · subst hm
        simp only [delF, if_true]
        exact (getF_none _ _).2 hn.1
      · simp [delF, getF, hm]
    · by_cases hm : k = m
      · subst hm; simp [delF, getF, hk, Ne.symm hk]
      · simp only [delF, hk, if_false, getF, hm]
        exact ih hn.2
theorem ref_remove (ok : d.Ok) (h : RefOf d r) {n : Str} {d' : Dsk} {x : Int} (hr : d.remove n = (d', x)) : ∃ r', r.rRemove n = (r', x) ∧ RefOf d' r' := by
  unfold Dsk.rRemove
  rw [there_of h]
  exact ref_op h (srt_rwithout h.srt _) (fun m => by show getF (rwithout r.files n) m = _; rw [getF_rwithout, rgetF_delF _ ok.names, h.get]) hr
theorem ref_rename (ok : d.Ok) (h : RefOf d r) {a b : Str} {d' : Dsk} {x : Int} (hr : d.rename a b = (d', x)) : ∃ r', r.rRename a b = (r', x) ∧ RefOf d' r' := by
  unfold Dsk.rRename
  rw [there_of h]
  exact ref_op h (srt_rwith (srt_rwithout h.srt _) _) (fun m => by rw [getF_rwith, getF_rwithout, getF_setF, rgetF_delF _ ok.names, h.get, h.file]) hr
theorem ref_cut (h : RefOf d r) {n : Str} {k : Int} {d' : Dsk} {x : Int} (hr : d.cut n k = (d', x)) : ∃ r', r.rCut n k = (r', x) ∧ RefOf d' r' := by
  unfold Dsk.rCut
  rw [mayCut_of h]
  exact ref_op h (srt_rwith h.srt _) (fun m => by rw [getF_rwith, getF_setF, h.get, h.file]) hr
theorem ref_arm (h : RefOf d r) (n : Int) : RefOf (d.armed n) (r.armed n) := by
  unfold Dsk.armed
  rw [h.down]
  split
  · exact h
  · exact ⟨h.most, rfl, rfl, h.srt, h.get⟩
theorem ref_read (h : RefOf d r) (n : Str) : r.read n = d.read n := by unfold Dsk.read; rw [h.down, h.get]
theorem names_rcrash : ∀ (L : List (Str × DFile)) (ks : List Int), namesF (rcrashF ks L) = namesF L
  | [], _ => rfl
  | (n, f) :: L, ks => by
    have := names_rcrash L ks.tail
    simp only [namesF, rcrashF, List.map_cons] at this ⊢
    rw [this]
theorem crashF_rcrash : ∀ (R : List (Str × DFile)) (ks : List Int) (L : List (Str × DFile)), (namesF R).Nodup → (∀ n ∈ namesF R, getF L n = getF R n) → (∀ n ∈ namesF R, n ∈ namesF L) →
    ∀ m, getF (crashF (namesF R) ks L) m = if m ∈ namesF R then getF (rcrashF ks R) m else getF L m
  | [], ks, L, _, _, _, m => by simp [namesF, crashF]
  | (n, f) :: R, ks, L, hn, hg, hm, m => by
    simp only [namesF, List.map_cons, List.nodup_cons] at hn
    have hf : getF L n = some f := by rw [hg n (by simp [namesF])]; simp [getF]
    have hfo : fileOf L n = f := by simp [fileOf, hf]
    show getF (crashF (namesF R) ks.tail (setF L n (leaves (fileOf L n) (ks.headD 0)))) m = _
    rw [hfo, crashF_rcrash R ks.tail _ hn.2 (fun k hk => ?_) (fun k hk => ?_) m]
    · by_cases hmR : m ∈ namesF R
      · have hnm : n ≠ m := fun e => hn.1 (by subst e; exact hmR)
        rw [if_pos hmR, if_pos (by simp only [namesF, List.map_cons, List.mem_cons]; exact .inr hmR)]
        simp [rcrashF, getF, hnm]
      · rw [if_neg hmR, getF_setF]
        by_cases hnm : n = m
        · subst hnm
          rw [if_pos rfl, if_pos (by simp [namesF])]
          simp [rcrashF, getF]
        · rw [if_neg hnm, if_neg (by simp only [namesF, List.map_cons, List.mem_cons, not_or]; exact ⟨fun e => hnm e.symm, hmR⟩)]
    · have hne : n ≠ k := fun e => hn.1 (by subst e; exact hk)
      rw [getF_setF, if_neg hne, hg k (by simp only [namesF, List.map_cons, List.mem_cons]; exact .inr hk)]
      simp [getF, hne]
    · rw [namesF_setF (hm n (by simp [namesF]))]
      exact hm k (by simp only [namesF, List.map_cons, List.mem_cons]; exact .inr hk)
theorem ref_crash (ok : d.Ok) (h : RefOf d r) (ks : List Int) : RefOf (d.crash ks) (r.rCrash ks) := by
  refine ⟨h.most, rfl, rfl, ?_, fun m => ?_⟩
  · show Srt (rcrashF ks r.files)
    have e := names_rcrash r.files ks
    have h1 : (namesF (rcrashF ks r.files)).Pairwise (· < ·) := by
      rw [e]; unfold namesF; rw [List.pairwise_map]; exact h.srt
    unfold namesF at h1
    rw [List.pairwise_map] at h1
    exact h1
  · show getF (rcrashF ks r.files) m = getF (crashF d.list ks d.files) m
    rw [h.list ok, crashF_rcrash r.files ks d.files (srt_nodup h.srt) (fun n _ => (h.get n).symm) (fun n hn => (h.mem n).1 hn) m]
    by_cases hm : m ∈ namesF r.files
    · rw [if_pos hm]
    · rw [if_neg hm, (getF_none _ _).2 (fun hd => hm ((h.mem m).2 hd)), (getF_none _ _).2 (by rw [names_rcrash]; exact hm)]
theorem ref_new (most : Int) : RefOf (newDsk most) (newDsk most) := ⟨rfl, rfl, rfl, List.Pairwise.nil, fun _ => rfl⟩
end
end Go.Proofs.YtkbenkldfehhlaaGreatDoor
