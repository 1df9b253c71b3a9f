/-
  Texts merged by a program of this claim's: Has, HasX.
-/
import Derived.Test.YtkhcdbafcigeoaaDoorM9
import Derived.Lib.SlBytesConst
/-
  A disk that a statement has made: the disk's functions, told for it.
-/
namespace Go.Proofs.YtkhcdbafcigeoaaDoor
open Go Go.RowKit Go.Sort
set_option maxRecDepth 100000
set_option maxHeartbeats 800000

/-- In w lies the disk d at b, which was made behind w0; of what was there in w0 nothing has turned. -/
def Has (w0 w : World) (b : Nat) (d : Dsk) : Prop := ∃ S, DiskIn w b d S ∧ Nw w0 w ∧ ∀ k, S k → w0.heap.size ≤ k

section
variable {w0 w w' : World} {b : Nat} {d d' : Dsk}
theorem Has.nw (h : Has w0 w b d) (hw : Nw w w') : Has w0 w' b d := by
  obtain ⟨S, h1, h2, h3⟩ := h
  exact ⟨S, h1.nw hw, h2.trans hw, h3⟩
theorem Has.base (h : Has w0 w b d) : Nw w0 w := h.choose_spec.2.1
theorem Has.ok (h : Has w0 w b d) : d.Ok := h.choose_spec.1.ok
theorem Has.turn {S : Nat → Prop} (hD : Nw w0 w) (hS : ∀ k, S k → w0.heap.size ≤ k) (h : DiskTo S w w' b d') : Has w0 w' b d' := by
  obtain ⟨S', h1, h2, h3⟩ := h
  refine ⟨S', h1, hD.trans' h2 (fun k hk hs => ?_), fun k hk => ?_⟩
  · have := hS k hs; omega
  · rcases h3 k hk with h | h
    · exact hS k h
    · have := hD.size; omega

theorem Has.new (most : Int) (w : World) (h0 : 0 ≤ most) (h1 : most ≤ 16777216) : Calls Tryd.prog 4 #[.int .i64 most] w fun e w' => ∃ b, e = .returned (.tuple #[.pointer (some ⟨b, 0, none⟩), .int .i64 0]) ∧ Has w w' b (newDsk most) := by
  refine (New_ok most w h0 h1).mono ?_
  rintro e w' ⟨b, S, he, h2, h3, h4⟩
  exact ⟨b, he, S, h2, h3, h4⟩

/-- Append of bytes that came in. -/
theorem Has.append (h : Has w0 w b d) (n : Str) (l : List UInt8) (src : Value) (hs : Bs w0 src l) (hnl : n.length ≤ 9223372036854775807) (hll : l.length ≤ 140737488355328) {x : Int} (hr : d.append n l = (d', x)) :
    Calls Tryd.prog 7 #[.pointer (some ⟨b, 0, none⟩), .string ⟨n.toArray⟩, src] w fun e w' => e = .returned (.int .i64 x) ∧ Has w0 w' b d' := by
  obtain ⟨S, h1, h2, h3⟩ := h
  have := Append_ok h1 n l src (hs.nw h2) (fun hne g hg hS => by have := hs.lt hne g hg; have := h3 g hS; omega) hnl hll
  rw [hr] at this
  exact this.mono fun e w' ⟨he, ht⟩ => ⟨he, Has.turn h2 h3 ht⟩
/-- Append of bytes that lie in a block that is none of the disk's. -/
theorem Has.append' (h : Has w0 w b d) (n : Str) (l : List UInt8) (o : Obj) (src : Value) (hs : Bs (w.alloc o) src l) (hb : src.ownBlock = none ∨ src.ownBlock = some w.heap.size) (hnl : n.length ≤ 9223372036854775807) (hll : l.length ≤ 140737488355328) {x : Int} (hr : d.append n l = (d', x)) :
    Calls Tryd.prog 7 #[.pointer (some ⟨b, 0, none⟩), .string ⟨n.toArray⟩, src] (w.alloc o) fun e w' => e = .returned (.int .i64 x) ∧ Has w0 w' b d' := by
  obtain ⟨S, h1, h2, h3⟩ := h
  have := Append_ok (h1.nw ((Nw.refl w).alloc o)) n l src hs (fun _ g hg hS => by
    rcases hb with hb | hb
    · rw [hb] at hg; cases hg
    · rw [hb] at hg
      have e : w.heap.size = g := Option.some.inj hg
      have := h1.lt g hS; omega) hnl hll
  rw [hr] at this
  exact this.mono fun e w' ⟨he, ht⟩ => ⟨he, Has.turn (h2.trans ((Nw.refl w).alloc o)) h3 ht⟩
theorem Has.sync (h : Has w0 w b d) (n : Str) {x : Int} (hr : d.sync n = (d', x)) :
    Calls Tryd.prog 9 #[.pointer (some ⟨b, 0, none⟩), .string ⟨n.toArray⟩] w fun e w' => e = .returned (.int .i64 x) ∧ Has w0 w' b d' := by
  obtain ⟨S, h1, h2, h3⟩ := h
  have := Sync_ok h1 n
  rw [hr] at this
  exact this.mono fun e w' ⟨he, ht⟩ => ⟨he, Has.turn h2 h3 ht⟩
theorem Has.remove (h : Has w0 w b d) (n : Str) {x : Int} (hr : d.remove n = (d', x)) :
    Calls Tryd.prog 13 #[.pointer (some ⟨b, 0, none⟩), .string ⟨n.toArray⟩] w fun e w' => e = .returned (.int .i64 x) ∧ Has w0 w' b d' := by
  obtain ⟨S, h1, h2, h3⟩ := h
  have := Remove_ok h1 n
  rw [hr] at this
  exact this.mono fun e w' ⟨he, ht⟩ => ⟨he, Has.turn h2 h3 ht⟩
theorem Has.rename (h : Has w0 w b d) (n t : Str) (htl : t.length ≤ 9223372036854775807) {x : Int} (hr : d.rename n t = (d', x)) :
    Calls Tryd.prog 11 #[.pointer (some ⟨b, 0, none⟩), .string ⟨n.toArray⟩, .string ⟨t.toArray⟩] w fun e w' => e = .returned (.int .i64 x) ∧ Has w0 w' b d' := by
  obtain ⟨S, h1, h2, h3⟩ := h
  have := Rename_ok h1 n t htl
  rw [hr] at this
  exact this.mono fun e w' ⟨he, ht⟩ => ⟨he, Has.turn h2 h3 ht⟩
theorem Has.cut (h : Has w0 w b d) (n : Str) (k : Int) {x : Int} (hr : d.cut n k = (d', x)) :
    Calls Tryd.prog 15 #[.pointer (some ⟨b, 0, none⟩), .string ⟨n.toArray⟩, .int .i64 k] w fun e w' => e = .returned (.int .i64 x) ∧ Has w0 w' b d' := by
  obtain ⟨S, h1, h2, h3⟩ := h
  have := Cut_ok h1 n k
  rw [hr] at this
  exact this.mono fun e w' ⟨he, ht⟩ => ⟨he, Has.turn h2 h3 ht⟩
theorem Has.arm (h : Has w0 w b d) (k : Int) (hk : k ≤ 9223372036854775807) (hr : d.armed k = d') :
    Calls Tryd.prog 17 #[.pointer (some ⟨b, 0, none⟩), .int .i64 k] w fun e w' => e = .returned (.tuple #[]) ∧ Has w0 w' b d' := by
  obtain ⟨S, h1, h2, h3⟩ := h
  have := Arm_ok h1 k hk
  rw [hr] at this
  exact this.mono fun e w' ⟨he, ht⟩ => ⟨he, Has.turn h2 h3 ht⟩
/-- Crash; what is kept came in. -/
theorem Has.crash (h : Has w0 w b d) (v : Value) (ks : List Int) (hs : Rd i64v w0 v ks) (hr : d.crash ks = d') :
    Calls Tryd.prog 19 #[.pointer (some ⟨b, 0, none⟩), v] w fun e w' => e = .returned (.tuple #[]) ∧ Has w0 w' b d' := by
  obtain ⟨S, h1, h2, h3⟩ := h
  have := Crash_ok h1 v ks (hs.nw h2) (fun hne g hg hS => by have := hs.lt hne g hg; have := h3 g hS; omega)
  rw [hr] at this
  exact this.mono fun e w' ⟨he, ht⟩ => ⟨he, Has.turn h2 h3 ht⟩
/-- .. what is kept lies in a new block. -/
theorem Has.crash' (h : Has w0 w b d) (v : Value) (ks : List Int) (o : Obj) (hs : Rd i64v (w.alloc o) v ks) (hb : v.ownBlock = none ∨ v.ownBlock = some w.heap.size) (hr : d.crash ks = d') :
    Calls Tryd.prog 19 #[.pointer (some ⟨b, 0, none⟩), v] (w.alloc o) fun e w' => e = .returned (.tuple #[]) ∧ Has w0 w' b d' := by
  obtain ⟨S, h1, h2, h3⟩ := h
  have := Crash_ok (h1.nw ((Nw.refl w).alloc o)) v ks hs (fun _ g hg hS => by
    rcases hb with hb | hb
    · rw [hb] at hg; cases hg
    · rw [hb] at hg
      have e : w.heap.size = g := Option.some.inj hg
      have := h1.lt g hS; omega)
  rw [hr] at this
  exact this.mono fun e w' ⟨he, ht⟩ => ⟨he, Has.turn (h2.trans ((Nw.refl w).alloc o)) h3 ht⟩

theorem Has.size (h : Has w0 w b d) (n : Str) {k : Nat} (hk : (fileOf d.files n).bytes.length = k) :
    Calls Tryd.prog 26 #[.pointer (some ⟨b, 0, none⟩), .string ⟨n.toArray⟩] w fun e w' => e = .returned (.int .i64 k) ∧ Has w0 w' b d := by
  have h' := h
  obtain ⟨S, h1, h2, h3⟩ := h
  subst hk
  exact (Size_ok h1 n).mono fun e w' ⟨he, hw⟩ => ⟨he, h'.nw hw⟩
theorem Has.synced (h : Has w0 w b d) (n : Str) {k : Nat} (hk : (fileOf d.files n).synced = k) :
    Calls Tryd.prog 27 #[.pointer (some ⟨b, 0, none⟩), .string ⟨n.toArray⟩] w fun e w' => e = .returned (.int .i64 k) ∧ Has w0 w' b d := by
  have h' := h
  obtain ⟨S, h1, h2, h3⟩ := h
  subst hk
  exact (Synced_ok h1 n).mono fun e w' ⟨he, hw⟩ => ⟨he, h'.nw hw⟩
theorem Has.used (h : Has w0 w b d) {k : Nat} (hk : usedF d.files = k) :
    Calls Tryd.prog 28 #[.pointer (some ⟨b, 0, none⟩)] w fun e w' => e = .returned (.int .i64 k) ∧ Has w0 w' b d := by
  have h' := h
  obtain ⟨S, h1, h2, h3⟩ := h
  subst hk
  exact (Used_ok h1).mono fun e w' ⟨he, hw⟩ => ⟨he, h'.nw hw⟩
theorem Has.down (h : Has w0 w b d) {x : Bool} (hx : d.down = x) :
    Calls Tryd.prog 32 #[.pointer (some ⟨b, 0, none⟩)] w fun e w' => e = .returned (.bool x) ∧ Has w0 w' b d := by
  have h' := h
  obtain ⟨S, h1, h2, h3⟩ := h
  subst hx
  exact (Down_ok h1).mono fun e w' ⟨he, hw⟩ => ⟨he, by subst hw; exact h'⟩
theorem Has.read (h : Has w0 w b d) (n : Str) {l : List UInt8} {x : Int} (hr : d.read n = (l, x)) :
    Calls Tryd.prog 21 #[.pointer (some ⟨b, 0, none⟩), .string ⟨n.toArray⟩] w fun e w' => ∃ v, e = .returned (.tuple #[v, .int .i64 x]) ∧ Own w' v l ∧ Has w0 w' b d ∧ ∀ g, v.ownBlock = some g → w.heap.size ≤ g := by
  have h' := h
  obtain ⟨S, h1, h2, h3⟩ := h
  have := Read_ok h1 n
  rw [hr] at this
  exact this.mono fun e w' ⟨v, he, hv, hw, hf⟩ => ⟨v, he, hv, h'.nw hw, hf⟩
theorem Has.list (h : Has w0 w b d) {l : List Str} (hl : d.list = l) :
    Calls Tryd.prog 31 #[.pointer (some ⟨b, 0, none⟩)] w fun e w' => ∃ v, e = .returned v ∧ Ss w' v l ∧ Has w0 w' b d ∧ ∀ g, v.ownBlock = some g → w.heap.size ≤ g := by
  have h' := h
  obtain ⟨S, h1, h2, h3⟩ := h
  have := List_ok h1
  rw [hl] at this
  exact this.mono fun e w' ⟨v, he, hv, hw, hf⟩ => ⟨v, he, hv, h'.nw hw, hf⟩
theorem Has.reads (h : Has w0 w b d) (n l : Str) (hr : d.read n = (l, 0)) :
    Calls Tryd.prog 29 #[.pointer (some ⟨b, 0, none⟩), .string ⟨n.toArray⟩, .string ⟨l.toArray⟩] w fun e w' => e = .returned (.bool true) ∧ Has w0 w' b d := by
  have h' := h
  obtain ⟨S, h1, h2, h3⟩ := h
  exact (reads_ok h1 n l hr).mono fun e w' ⟨he, hw⟩ => ⟨he, h'.nw hw⟩
end

/-- A row that a literal lays. -/
theorem rd_lit {α : Type} {f : α → Value} (w : World) (t : TypeId) (fz : Nat × Nat) (l : List α) (C : Array Value) (c : Nat) (hC : C = (l.map f).toArray) (hc : l.length ≤ c) (hm : c ≤ maxLen) :
    Rd f (w.alloc (.cells C t fz)) (.slice (some ⟨w.heap.size, 0, none⟩) l.length c) l := by
  refine .inr ⟨w.heap.size, 0, c, rfl, hc, hm, by simp, fun i hi => ?_⟩
  have : (w.alloc (.cells C t fz)).heap[w.heap.size]? = some (.cells C t fz) := heap_alloc_new w _
  subst hC
  unfold World.cell?
  rw [show (⟨w.heap.size, 0 + i, none⟩ : Addr).block = w.heap.size from rfl, this]
  simp [hi]
end Go.Proofs.YtkhcdbafcigeoaaDoor

/-
  A disk that a statement has made, beside other things that are kept (the blocks X): the disk's functions, told for it; and two disks that share nothing.
-/
namespace Go.Proofs.YtkhcdbafcigeoaaDoor
open Go Go.RowKit Go.Sort
set_option maxRecDepth 100000
set_option maxHeartbeats 800000

def Kept (X : Nat → Prop) (w w' : World) : Prop := w.heap.size ≤ w'.heap.size ∧ ∀ k, X k → k < w.heap.size → w'.heap[k]? = w.heap[k]?
theorem Kept.refl {X : Nat → Prop} (w : World) : Kept X w w := ⟨Nat.le_refl _, fun _ _ _ => rfl⟩
theorem Kept.trans {X : Nat → Prop} {w w' w'' : World} (h : Kept X w w') (h' : Kept X w' w'') : Kept X w w'' :=
  ⟨Nat.le_trans h.1 h'.1, fun k hk hl => (h'.2 k hk (Nat.lt_of_lt_of_le hl h.1)).trans (h.2 k hk hl)⟩
theorem Kept.weak {X Y : Nat → Prop} {w w' : World} (h : Kept X w w') (hy : ∀ k, Y k → X k) : Kept Y w w' := ⟨h.1, fun k hk hl => h.2 k (hy k hk) hl⟩
theorem Nw.kept {X : Nat → Prop} {w w' : World} (h : Nw w w') : Kept X w w' := ⟨h.size, fun k _ hl => h.block k hl (fun hf => hf)⟩
theorem Kept.cell {X : Nat → Prop} {w w' : World} (h : Kept X w w') {a : Addr} {v : Value} (hc : w.cell? a = some v) (hx : X a.block) : w'.cell? a = some v :=
  (World.cell?_of_block (h.2 _ hx (World.block_lt_of_cell? w a hc))).trans hc
theorem Rd.kept {α : Type} {f : α → Value} {X : Nat → Prop} {w w' : World} {v : Value} {l : List α} (h : Rd f w v l) (hk : Kept X w w') (hx : l ≠ [] → ∀ g, v.ownBlock = some g → X g) : Rd f w' v l := by
  rcases h with h | ⟨g, o, cap, rfl, h1, h2, hg, h3⟩
  · exact .inl h
  · exact .inr ⟨g, o, cap, rfl, h1, h2, Nat.lt_of_lt_of_le hg hk.1, fun i hi => hk.cell (h3 i hi) (hx (fun e => by rw [e] at hi; exact absurd hi (by simp)) g rfl)⟩
theorem RowF.kept {α : Type} {f : α → Value} {e : TypeId} {X : Nat → Prop} {w w' : World} {v : Value} {l : List α} (h : RowF f e w v l) (hk : Kept X w w') (hx : ∀ g, v.ownBlock = some g → X g) : RowF f e w' v l :=
  h.keep fun g hg => hk.2 g (hx g hg) (h.lt g hg)

/-- In w lies the disk d at b, made behind w0; of what was there in w0 nothing has turned; the blocks X are none of the disk's. -/
def HasX (X : Nat → Prop) (w0 w : World) (b : Nat) (d : Dsk) : Prop := ∃ S, DiskIn w b d S ∧ Nw w0 w ∧ (∀ k, S k → w0.heap.size ≤ k) ∧ ∀ k, X k → k < w.heap.size ∧ ¬ S k
def DidX (X : Nat → Prop) (w0 w : World) (b : Nat) (d' : Dsk) (v : Value) (e : Ending) (w' : World) : Prop := e = .returned v ∧ HasX X w0 w' b d' ∧ Kept X w w'

section
variable {X Y : Nat → Prop} {w0 w w' : World} {b : Nat} {d d' : Dsk}
theorem HasX.has (h : HasX X w0 w b d) : Has w0 w b d := by
  obtain ⟨S, h1, h2, h3, -⟩ := h
  exact ⟨S, h1, h2, h3⟩
theorem Has.hasX (h : Has w0 w b d) : HasX (fun _ => False) w0 w b d := by
  obtain ⟨S, h1, h2, h3⟩ := h
  exact ⟨S, h1, h2, h3, fun _ hf => hf.elim⟩
theorem HasX.base (h : HasX X w0 w b d) : Nw w0 w := h.has.base
theorem HasX.ok (h : HasX X w0 w b d) : d.Ok := h.has.ok
theorem HasX.lt (h : HasX X w0 w b d) : ∀ k, X k → k < w.heap.size := by
  obtain ⟨S, h1, h2, h3, h4⟩ := h
  exact fun k hk => (h4 k hk).1
theorem HasX.weak (h : HasX X w0 w b d) (hy : ∀ k, Y k → X k) : HasX Y w0 w b d := by
  obtain ⟨S, h1, h2, h3, h4⟩ := h
  exact ⟨S, h1, h2, h3, fun k hk => h4 k (hy k hk)⟩
theorem HasX.nw (h : HasX X w0 w b d) (hw : Nw w w') : HasX X w0 w' b d := by
  obtain ⟨S, h1, h2, h3, h4⟩ := h
  exact ⟨S, h1.nw hw, h2.trans hw, h3, fun k hk => ⟨Nat.lt_of_lt_of_le (h4 k hk).1 hw.size, (h4 k hk).2⟩⟩
/-- .. and new blocks are kept from now on. -/
theorem HasX.nwY (h : HasX X w0 w b d) (hw : Nw w w') (hy : ∀ k, Y k → X k ∨ w.heap.size ≤ k ∧ k < w'.heap.size) : HasX Y w0 w' b d := by
  obtain ⟨S, h1, h2, h3, h4⟩ := h
  refine ⟨S, h1.nw hw, h2.trans hw, h3, fun k hk => ?_⟩
  rcases hy k hk with h | ⟨h, h'⟩
  · exact ⟨Nat.lt_of_lt_of_le (h4 k h).1 hw.size, (h4 k h).2⟩
  · exact ⟨h', fun hs => by have := h1.lt k hs; omega⟩
/-- What is written is none of the disk's and none of w0's. -/
theorem HasX.put {Z : Nat → Prop} (h : HasX X w0 w b d) (hw : Only Z w w') (hz : ∀ k, Z k → k < w.heap.size → X k ∧ w0.heap.size ≤ k) (hy : ∀ k, Y k → X k ∨ w.heap.size ≤ k ∧ k < w'.heap.size) : HasX Y w0 w' b d := by
  obtain ⟨S, h1, h2, h3, h4⟩ := h
  refine ⟨S, ?_, ?_, h3, fun k hk => ?_⟩
  · exact h1.keep hw fun k hk hzk => (h4 k (hz k hzk (h1.lt k hk)).1).2 hk
  · exact h2.trans' hw fun k hk hzk => by have := (hz k hzk (Nat.lt_of_lt_of_le hk h2.size)).2; omega
  · rcases hy k hk with h | ⟨h, h'⟩
    · exact ⟨Nat.lt_of_lt_of_le (h4 k h).1 hw.size, (h4 k h).2⟩
    · exact ⟨h', fun hs => by have := h1.lt k hs; omega⟩
theorem HasX.alloc (h : HasX X w0 w b d) (o : Obj) : HasX (fun k => X k ∨ k = w.heap.size) w0 (w.alloc o) b d :=
  h.nwY ((Nw.refl w).alloc o) fun k hk => hk.imp id (fun e => by subst e; simp)
theorem HasX.turn {S : Nat → Prop} (_hD : DiskIn w b d S) (hN : Nw w0 w) (hS : ∀ k, S k → w0.heap.size ≤ k) (hX : ∀ k, X k → k < w.heap.size ∧ ¬ S k) (h : DiskTo S w w' b d') : HasX X w0 w' b d' ∧ Kept X w w' := by
  obtain ⟨S', h1, h2, h3⟩ := h
  refine ⟨⟨S', h1, hN.trans' h2 (fun k hk hs => ?_), fun k hk => ?_, fun k hk => ⟨Nat.lt_of_lt_of_le (hX k hk).1 h2.size, fun hs => ?_⟩⟩, h2.size, fun k hk hl => h2.block k hl (hX k hk).2⟩
  · have := hS k hs; omega
  · rcases h3 k hk with h | h
    · exact hS k h
    · have := hN.size; omega
  · rcases h3 k hs with h | h
    · exact (hX k hk).2 h
    · have := (hX k hk).1; omega
theorem HasX.new (most : Int) (w : World) (h0 : 0 ≤ most) (h1 : most ≤ 16777216) : Calls Tryd.prog 4 #[.int .i64 most] w fun e w' => ∃ b, e = .returned (.tuple #[.pointer (some ⟨b, 0, none⟩), .int .i64 0]) ∧ HasX (fun _ => False) w w' b (newDsk most) :=
  (Has.new most w h0 h1).mono fun _ _ ⟨b, he, h⟩ => ⟨b, he, h.hasX⟩

theorem HasX.append (h : HasX X w0 w b d) (n : Str) (l : List UInt8) (src : Value) (hs : Bs w src l) (hg : l ≠ [] → ∀ g, src.ownBlock = some g → X g ∨ g < w0.heap.size) (hnl : n.length ≤ 9223372036854775807) (hll : l.length ≤ 140737488355328) {x : Int} (hr : d.append n l = (d', x)) :
    Calls Tryd.prog 7 #[.pointer (some ⟨b, 0, none⟩), .string ⟨n.toArray⟩, src] w (DidX X w0 w b d' (.int .i64 x)) := by
  obtain ⟨S, h1, h2, h3, h4⟩ := h
  have := Append_ok h1 n l src hs (fun hne g hg' hS => by
    rcases hg hne g hg' with h | h
    · exact (h4 g h).2 hS
    · have := h3 g hS; omega) hnl hll
  rw [hr] at this
  exact this.mono fun e w' ⟨he, ht⟩ => ⟨he, HasX.turn h1 h2 h3 h4 ht⟩
theorem HasX.sync (h : HasX X w0 w b d) (n : Str) {x : Int} (hr : d.sync n = (d', x)) :
    Calls Tryd.prog 9 #[.pointer (some ⟨b, 0, none⟩), .string ⟨n.toArray⟩] w (DidX X w0 w b d' (.int .i64 x)) := by
  obtain ⟨S, h1, h2, h3, h4⟩ := h
  have := Sync_ok h1 n
  rw [hr] at this
  exact this.mono fun e w' ⟨he, ht⟩ => ⟨he, HasX.turn h1 h2 h3 h4 ht⟩
theorem HasX.remove (h : HasX X w0 w b d) (n : Str) {x : Int} (hr : d.remove n = (d', x)) :
    Calls Tryd.prog 13 #[.pointer (some ⟨b, 0, none⟩), .string ⟨n.toArray⟩] w (DidX X w0 w b d' (.int .i64 x)) := by
  obtain ⟨S, h1, h2, h3, h4⟩ := h
  have := Remove_ok h1 n
  rw [hr] at this
  exact this.mono fun e w' ⟨he, ht⟩ => ⟨he, HasX.turn h1 h2 h3 h4 ht⟩
theorem HasX.rename (h : HasX X w0 w b d) (n t : Str) (htl : t.length ≤ 9223372036854775807) {x : Int} (hr : d.rename n t = (d', x)) :
    Calls Tryd.prog 11 #[.pointer (some ⟨b, 0, none⟩), .string ⟨n.toArray⟩, .string ⟨t.toArray⟩] w (DidX X w0 w b d' (.int .i64 x)) := by
  obtain ⟨S, h1, h2, h3, h4⟩ := h
  have := Rename_ok h1 n t htl
  rw [hr] at this
  exact this.mono fun e w' ⟨he, ht⟩ => ⟨he, HasX.turn h1 h2 h3 h4 ht⟩
theorem HasX.cut (h : HasX X w0 w b d) (n : Str) (k : Int) {x : Int} (hr : d.cut n k = (d', x)) :
    Calls Tryd.prog 15 #[.pointer (some ⟨b, 0, none⟩), .string ⟨n.toArray⟩, .int .i64 k] w (DidX X w0 w b d' (.int .i64 x)) := by
  obtain ⟨S, h1, h2, h3, h4⟩ := h
  have := Cut_ok h1 n k
  rw [hr] at this
  exact this.mono fun e w' ⟨he, ht⟩ => ⟨he, HasX.turn h1 h2 h3 h4 ht⟩
theorem HasX.arm (h : HasX X w0 w b d) (k : Int) (hk : k ≤ 9223372036854775807) (hr : d.armed k = d') :
    Calls Tryd.prog 17 #[.pointer (some ⟨b, 0, none⟩), .int .i64 k] w (DidX X w0 w b d' (.tuple #[])) := by
  obtain ⟨S, h1, h2, h3, h4⟩ := h
  have := Arm_ok h1 k hk
  rw [hr] at this
  exact this.mono fun e w' ⟨he, ht⟩ => ⟨he, HasX.turn h1 h2 h3 h4 ht⟩
theorem HasX.crash (h : HasX X w0 w b d) (v : Value) (ks : List Int) (hs : Rd i64v w v ks) (hg : ks ≠ [] → ∀ g, v.ownBlock = some g → X g ∨ g < w0.heap.size) (hr : d.crash ks = d') :
    Calls Tryd.prog 19 #[.pointer (some ⟨b, 0, none⟩), v] w (DidX X w0 w b d' (.tuple #[])) := by
  obtain ⟨S, h1, h2, h3, h4⟩ := h
  have := Crash_ok h1 v ks hs (fun hne g hg' hS => by
    rcases hg hne g hg' with h | h
    · exact (h4 g h).2 hS
    · have := h3 g hS; omega)
  rw [hr] at this
  exact this.mono fun e w' ⟨he, ht⟩ => ⟨he, HasX.turn h1 h2 h3 h4 ht⟩
/-! What only reads -/
theorem HasX.size (h : HasX X w0 w b d) (n : Str) {k : Nat} (hk : (fileOf d.files n).bytes.length = k) :
    Calls Tryd.prog 26 #[.pointer (some ⟨b, 0, none⟩), .string ⟨n.toArray⟩] w fun e w' => e = .returned (.int .i64 k) ∧ Nw w w' := by
  obtain ⟨S, h1, -⟩ := h
  subst hk; exact Size_ok h1 n
theorem HasX.synced (h : HasX X w0 w b d) (n : Str) {k : Nat} (hk : (fileOf d.files n).synced = k) :
    Calls Tryd.prog 27 #[.pointer (some ⟨b, 0, none⟩), .string ⟨n.toArray⟩] w fun e w' => e = .returned (.int .i64 k) ∧ Nw w w' := by
  obtain ⟨S, h1, -⟩ := h
  subst hk; exact Synced_ok h1 n
theorem HasX.used (h : HasX X w0 w b d) {k : Nat} (hk : usedF d.files = k) :
    Calls Tryd.prog 28 #[.pointer (some ⟨b, 0, none⟩)] w fun e w' => e = .returned (.int .i64 k) ∧ Nw w w' := by
  obtain ⟨S, h1, -⟩ := h
  subst hk; exact Used_ok h1
theorem HasX.down (h : HasX X w0 w b d) {x : Bool} (hx : d.down = x) :
    Calls Tryd.prog 32 #[.pointer (some ⟨b, 0, none⟩)] w fun e w' => e = .returned (.bool x) ∧ w = w' := by
  obtain ⟨S, h1, -⟩ := h
  subst hx; exact Down_ok h1
theorem HasX.read (h : HasX X w0 w b d) (n : Str) {l : List UInt8} {x : Int} (hr : d.read n = (l, x)) :
    Calls Tryd.prog 21 #[.pointer (some ⟨b, 0, none⟩), .string ⟨n.toArray⟩] w fun e w' => ∃ v, e = .returned (.tuple #[v, .int .i64 x]) ∧ Own w' v l ∧ Nw w w' ∧ ∀ g, v.ownBlock = some g → w.heap.size ≤ g := by
  obtain ⟨S, h1, -⟩ := h
  have := Read_ok h1 n
  rw [hr] at this
  exact this
theorem HasX.list (h : HasX X w0 w b d) {l : List Str} (hl : d.list = l) :
    Calls Tryd.prog 31 #[.pointer (some ⟨b, 0, none⟩)] w fun e w' => ∃ v, e = .returned v ∧ Ss w' v l ∧ Nw w w' ∧ ∀ g, v.ownBlock = some g → w.heap.size ≤ g := by
  obtain ⟨S, h1, -⟩ := h
  have := List_ok h1
  rw [hl] at this
  exact this

/-! ### Two disks that share nothing -/
def Two (X : Nat → Prop) (w0 w : World) (a : Nat) (da : Dsk) (b : Nat) (db : Dsk) : Prop :=
  ∃ S T, DiskIn w a da S ∧ DiskIn w b db T ∧ Nw w0 w ∧ (∀ k, S k → w0.heap.size ≤ k) ∧ (∀ k, T k → w0.heap.size ≤ k) ∧ (∀ k, S k → ¬ T k) ∧ ∀ k, X k → k < w.heap.size ∧ ¬ S k ∧ ¬ T k
variable {a : Nat} {da da' db : Dsk}
theorem Two.symm (h : Two X w0 w a da b db) : Two X w0 w b db a da := by
  obtain ⟨S, T, h1, h2, h3, h4, h5, h6, h7⟩ := h
  exact ⟨T, S, h2, h1, h3, h5, h4, fun k hk hs => h6 k hs hk, fun k hk => ⟨(h7 k hk).1, (h7 k hk).2.2, (h7 k hk).2.1⟩⟩
theorem Two.fst (h : Two X w0 w a da b db) : HasX X w0 w a da := by
  obtain ⟨S, T, h1, h2, h3, h4, h5, h6, h7⟩ := h
  exact ⟨S, h1, h3, h4, fun k hk => ⟨(h7 k hk).1, (h7 k hk).2.1⟩⟩
theorem Two.base (h : Two X w0 w a da b db) : Nw w0 w := h.fst.base
theorem Two.of_new (h : HasX X w0 w a da) (h' : HasX (fun _ => False) w w' b db) : Two X w0 w' a da b db := by
  obtain ⟨S, h1, h2, h3, h4⟩ := h
  obtain ⟨T, g1, g2, g3, -⟩ := h'
  refine ⟨S, T, h1.nw g2, g1, h2.trans g2, h3, fun k hk => Nat.le_trans h2.size (g3 k hk), fun k hk ht => ?_, fun k hk => ⟨Nat.lt_of_lt_of_le (h4 k hk).1 g2.size, (h4 k hk).2, fun ht => ?_⟩⟩
  · have := h1.lt k hk; have := g3 k ht; omega
  · have := (h4 k hk).1; have := g3 k ht; omega
theorem Two.nw (h : Two X w0 w a da b db) (hw : Nw w w') : Two X w0 w' a da b db := by
  obtain ⟨S, T, h1, h2, h3, h4, h5, h6, h7⟩ := h
  exact ⟨S, T, h1.nw hw, h2.nw hw, h3.trans hw, h4, h5, h6, fun k hk => ⟨Nat.lt_of_lt_of_le (h7 k hk).1 hw.size, (h7 k hk).2⟩⟩
theorem Two.weak (h : Two X w0 w a da b db) (hy : ∀ k, Y k → X k) : Two Y w0 w a da b db := by
  obtain ⟨S, T, h1, h2, h3, h4, h5, h6, h7⟩ := h
  exact ⟨S, T, h1, h2, h3, h4, h5, h6, fun k hk => h7 k (hy k hk)⟩
theorem Two.put {Z : Nat → Prop} (h : Two X w0 w a da b db) (hw : Only Z w w') (hz : ∀ k, Z k → k < w.heap.size → X k ∧ w0.heap.size ≤ k) (hy : ∀ k, Y k → X k ∨ w.heap.size ≤ k ∧ k < w'.heap.size) : Two Y w0 w' a da b db := by
  obtain ⟨S, T, h1, h2, h3, h4, h5, h6, h7⟩ := h
  refine ⟨S, T, ?_, ?_, ?_, h4, h5, h6, fun k hk => ?_⟩
  · exact h1.keep hw fun k hk hzk => (h7 k (hz k hzk (h1.lt k hk)).1).2.1 hk
  · exact h2.keep hw fun k hk hzk => (h7 k (hz k hzk (h2.lt k hk)).1).2.2 hk
  · exact h3.trans' hw fun k hk hzk => by have := (hz k hzk (Nat.lt_of_lt_of_le hk h3.size)).2; omega
  · rcases hy k hk with h | ⟨h, h'⟩
    · exact ⟨Nat.lt_of_lt_of_le (h7 k h).1 hw.size, (h7 k h).2⟩
    · exact ⟨h', fun hs => by have := h1.lt k hs; omega, fun hs => by have := h2.lt k hs; omega⟩
theorem Two.nwY (h : Two X w0 w a da b db) (hw : Nw w w') (hy : ∀ k, Y k → X k ∨ w.heap.size ≤ k ∧ k < w'.heap.size) : Two Y w0 w' a da b db :=
  h.put hw (fun _ hf => hf.elim) hy
/-- What is done to the first one. -/
def DidTwo (X : Nat → Prop) (w0 w : World) (a : Nat) (da' : Dsk) (b : Nat) (db : Dsk) (v : Value) (e : Ending) (w' : World) : Prop := e = .returned v ∧ Two X w0 w' a da' b db ∧ Kept X w w'
theorem Two.step {P : Program} {f : FuncId} {args : Array Value} {v : Value} (h : Two X w0 w a da b db)
    (hop : ∀ Y : Nat → Prop, (∀ k, X k → Y k) → HasX Y w0 w a da → Calls P f args w (DidX Y w0 w a da' v)) : Calls P f args w (DidTwo X w0 w a da' b db v) := by
  obtain ⟨S, T, h1, h2, h3, h4, h5, h6, h7⟩ := h
  refine (hop (fun k => X k ∨ T k) (fun k hk => .inl hk) ⟨S, h1, h3, h4, fun k hk => ?_⟩).mono ?_
  · rcases hk with hk | hk
    · exact ⟨(h7 k hk).1, (h7 k hk).2.1⟩
    · exact ⟨h2.lt k hk, fun hs => h6 k hs hk⟩
  · rintro e w' ⟨rfl, ⟨S', g1, g2, g3, g4⟩, hk⟩
    refine ⟨rfl, ⟨S', T, g1, ?_, g2, g3, h5, fun k hs ht => (g4 k (.inr ht)).2 hs, fun k hx => ⟨(g4 k (.inl hx)).1, (g4 k (.inl hx)).2, (h7 k hx).2.2⟩⟩, hk.weak fun k hx => .inl hx⟩
    obtain ⟨m, fs, e1, e2⟩ := h2
    exact ⟨m, fs, e1.keep fun k hk' => hk.2 k (.inr ((e2 k).2 hk')) (e1.lt k hk'), e2⟩
end
end Go.Proofs.YtkhcdbafcigeoaaDoor
