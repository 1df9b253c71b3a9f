/-
  A disk that a statement has made: the disk's functions, told for it.
-/
import Derived.Test.YtihagdadbeoeoaaDoorTexts
import Derived.Lib.SlBytesConst
namespace Go.Proofs.YtihagdadbeoeoaaDoor
open Go Go.RowKit Go.Sort
set_option maxRecDepth 100000
set_option maxHeartbeats 800000

/-- In w lies the disk d at b, which was made behind w0; of what was there in w0 nothing has turned. -/
def Has (w0 w : World) (b : Nat) (d : Dsk) : Prop := ∃ S, DiskIn w b d S ∧ Nw w0 w ∧ ∀ k, S k → w0.heap.size ≤ k

section
variable {w0 w w' : World} {b : Nat} {d d' : Dsk}
theorem Has.nw (h : Has w0 w b d) (hw : Nw w w') : Has w0 w' b d := by
  obtain ⟨S, h1, h2, h3⟩ := h
  exact ⟨S, h1.nw hw, h2.trans hw, h3⟩
theorem Has.base (h : Has w0 w b d) : Nw w0 w := h.choose_spec.2.1
theorem Has.ok (h : Has w0 w b d) : d.Ok := h.choose_spec.1.ok
theorem Has.turn {S : Nat → Prop} (hD : Nw w0 w) (hS : ∀ k, S k → w0.heap.size ≤ k) (h : DiskTo S w w' b d') : Has w0 w' b d' := by
  obtain ⟨S', h1, h2, h3⟩ := h
  refine ⟨S', h1, hD.trans' h2 (fun k hk hs => ?_), fun k hk => ?_⟩
  · have := hS k hs; omega
  · rcases h3 k hk with h | h
    · exact hS k h
    · have := hD.size; omega

theorem Has.new (most : Int) (w : World) (h0 : 0 ≤ most) (h1 : most ≤ 16777216) : Calls Tryd.prog 13 #[.int .i64 most] w fun e w' => ∃ b, e = .returned (.tuple #[.pointer (some ⟨b, 0, none⟩), .int .i64 0]) ∧ Has w w' b (newDsk most) := by
  refine (New_ok most w h0 h1).mono ?_
  rintro e w' ⟨b, S, he, h2, h3, h4⟩
  exact ⟨b, he, S, h2, h3, h4⟩

/-- Append of bytes that came in. -/
theorem Has.append (h : Has w0 w b d) (n : Str) (l : List UInt8) (src : Value) (hs : Bs w0 src l) (hnl : n.length ≤ 9223372036854775807) (hll : l.length ≤ 140737488355328) {x : Int} (hr : d.append n l = (d', x)) :
    Calls Tryd.prog 16 #[.pointer (some ⟨b, 0, none⟩), .string ⟨n.toArray⟩, src] w fun e w' => e = .returned (.int .i64 x) ∧ Has w0 w' b d' := by
  obtain ⟨S, h1, h2, h3⟩ := h
  have := Append_ok h1 n l src (hs.nw h2) (fun hne g hg hS => by have := hs.lt hne g hg; have := h3 g hS; omega) hnl hll
  rw [hr] at this
  exact this.mono fun e w' ⟨he, ht⟩ => ⟨he, Has.turn h2 h3 ht⟩
/-- Append of bytes that lie in a block that is none of the disk's. -/
theorem Has.append' (h : Has w0 w b d) (n : Str) (l : List UInt8) (o : Obj) (src : Value) (hs : Bs (w.alloc o) src l) (hb : src.ownBlock = none ∨ src.ownBlock = some w.heap.size) (hnl : n.length ≤ 9223372036854775807) (hll : l.length ≤ 140737488355328) {x : Int} (hr : d.append n l = (d', x)) :
    Calls Tryd.prog 16 #[.pointer (some ⟨b, 0, none⟩), .string ⟨n.toArray⟩, src] (w.alloc o) fun e w' => e = .returned (.int .i64 x) ∧ Has w0 w' b d' := by
  obtain ⟨S, h1, h2, h3⟩ := h
  have := Append_ok (h1.nw ((Nw.refl w).alloc o)) n l src hs (fun _ g hg hS => by
    rcases hb with hb | hb
    · rw [hb] at hg; cases hg
    · rw [hb] at hg
      have e : w.heap.size = g := Option.some.inj hg
      have := h1.lt g hS; omega) hnl hll
  rw [hr] at this
  exact this.mono fun e w' ⟨he, ht⟩ => ⟨he, Has.turn (h2.trans ((Nw.refl w).alloc o)) h3 ht⟩
theorem Has.sync (h : Has w0 w b d) (n : Str) {x : Int} (hr : d.sync n = (d', x)) :
    Calls Tryd.prog 18 #[.pointer (some ⟨b, 0, none⟩), .string ⟨n.toArray⟩] w fun e w' => e = .returned (.int .i64 x) ∧ Has w0 w' b d' := by
  obtain ⟨S, h1, h2, h3⟩ := h
  have := Sync_ok h1 n
  rw [hr] at this
  exact this.mono fun e w' ⟨he, ht⟩ => ⟨he, Has.turn h2 h3 ht⟩
theorem Has.remove (h : Has w0 w b d) (n : Str) {x : Int} (hr : d.remove n = (d', x)) :
    Calls Tryd.prog 32 #[.pointer (some ⟨b, 0, none⟩), .string ⟨n.toArray⟩] w fun e w' => e = .returned (.int .i64 x) ∧ Has w0 w' b d' := by
  obtain ⟨S, h1, h2, h3⟩ := h
  have := Remove_ok h1 n
  rw [hr] at this
  exact this.mono fun e w' ⟨he, ht⟩ => ⟨he, Has.turn h2 h3 ht⟩
theorem Has.rename (h : Has w0 w b d) (n t : Str) (htl : t.length ≤ 9223372036854775807) {x : Int} (hr : d.rename n t = (d', x)) :
    Calls Tryd.prog 19 #[.pointer (some ⟨b, 0, none⟩), .string ⟨n.toArray⟩, .string ⟨t.toArray⟩] w fun e w' => e = .returned (.int .i64 x) ∧ Has w0 w' b d' := by
  obtain ⟨S, h1, h2, h3⟩ := h
  have := Rename_ok h1 n t htl
  rw [hr] at this
  exact this.mono fun e w' ⟨he, ht⟩ => ⟨he, Has.turn h2 h3 ht⟩
theorem Has.cut (h : Has w0 w b d) (n : Str) (k : Int) {x : Int} (hr : d.cut n k = (d', x)) :
    Calls Tryd.prog 34 #[.pointer (some ⟨b, 0, none⟩), .string ⟨n.toArray⟩, .int .i64 k] w fun e w' => e = .returned (.int .i64 x) ∧ Has w0 w' b d' := by
  obtain ⟨S, h1, h2, h3⟩ := h
  have := Cut_ok h1 n k
  rw [hr] at this
  exact this.mono fun e w' ⟨he, ht⟩ => ⟨he, Has.turn h2 h3 ht⟩
theorem Has.arm (h : Has w0 w b d) (k : Int) (hk : k ≤ 9223372036854775807) (hr : d.armed k = d') :
    Calls Tryd.prog 15 #[.pointer (some ⟨b, 0, none⟩), .int .i64 k] w fun e w' => e = .returned (.tuple #[]) ∧ Has w0 w' b d' := by
  obtain ⟨S, h1, h2, h3⟩ := h
  have := Arm_ok h1 k hk
  rw [hr] at this
  exact this.mono fun e w' ⟨he, ht⟩ => ⟨he, Has.turn h2 h3 ht⟩
/-- Crash; what is kept came in. -/
theorem Has.crash (h : Has w0 w b d) (v : Value) (ks : List Int) (hs : Rd i64v w0 v ks) (hr : d.crash ks = d') :
    Calls Tryd.prog 21 #[.pointer (some ⟨b, 0, none⟩), v] w fun e w' => e = .returned (.tuple #[]) ∧ Has w0 w' b d' := by
  obtain ⟨S, h1, h2, h3⟩ := h
  have := Crash_ok h1 v ks (hs.nw h2) (fun hne g hg hS => by have := hs.lt hne g hg; have := h3 g hS; omega)
  rw [hr] at this
  exact this.mono fun e w' ⟨he, ht⟩ => ⟨he, Has.turn h2 h3 ht⟩
/-- .. what is kept lies in a new block. -/
theorem Has.crash' (h : Has w0 w b d) (v : Value) (ks : List Int) (o : Obj) (hs : Rd i64v (w.alloc o) v ks) (hb : v.ownBlock = none ∨ v.ownBlock = some w.heap.size) (hr : d.crash ks = d') :
    Calls Tryd.prog 21 #[.pointer (some ⟨b, 0, none⟩), v] (w.alloc o) fun e w' => e = .returned (.tuple #[]) ∧ Has w0 w' b d' := by
  obtain ⟨S, h1, h2, h3⟩ := h
  have := Crash_ok (h1.nw ((Nw.refl w).alloc o)) v ks hs (fun _ g hg hS => by
    rcases hb with hb | hb
    · rw [hb] at hg; cases hg
    · rw [hb] at hg
      have e : w.heap.size = g := Option.some.inj hg
      have := h1.lt g hS; omega)
  rw [hr] at this
  exact this.mono fun e w' ⟨he, ht⟩ => ⟨he, Has.turn (h2.trans ((Nw.refl w).alloc o)) h3 ht⟩

theorem Has.size (h : Has w0 w b d) (n : Str) {k : Nat} (hk : (fileOf d.files n).bytes.length = k) :
    Calls Tryd.prog 41 #[.pointer (some ⟨b, 0, none⟩), .string ⟨n.toArray⟩] w fun e w' => e = .returned (.int .i64 k) ∧ Has w0 w' b d := by
  have h' := h
  obtain ⟨S, h1, h2, h3⟩ := h
  subst hk
  exact (Size_ok h1 n).mono fun e w' ⟨he, hw⟩ => ⟨he, h'.nw hw⟩
theorem Has.synced (h : Has w0 w b d) (n : Str) {k : Nat} (hk : (fileOf d.files n).synced = k) :
    Calls Tryd.prog 24 #[.pointer (some ⟨b, 0, none⟩), .string ⟨n.toArray⟩] w fun e w' => e = .returned (.int .i64 k) ∧ Has w0 w' b d := by
  have h' := h
  obtain ⟨S, h1, h2, h3⟩ := h
  subst hk
  exact (Synced_ok h1 n).mono fun e w' ⟨he, hw⟩ => ⟨he, h'.nw hw⟩
theorem Has.used (h : Has w0 w b d) {k : Nat} (hk : usedF d.files = k) :
    Calls Tryd.prog 42 #[.pointer (some ⟨b, 0, none⟩)] w fun e w' => e = .returned (.int .i64 k) ∧ Has w0 w' b d := by
  have h' := h
  obtain ⟨S, h1, h2, h3⟩ := h
  subst hk
  exact (Used_ok h1).mono fun e w' ⟨he, hw⟩ => ⟨he, h'.nw hw⟩
theorem Has.down (h : Has w0 w b d) {x : Bool} (hx : d.down = x) :
    Calls Tryd.prog 20 #[.pointer (some ⟨b, 0, none⟩)] w fun e w' => e = .returned (.bool x) ∧ Has w0 w' b d := by
  have h' := h
  obtain ⟨S, h1, h2, h3⟩ := h
  subst hx
  exact (Down_ok h1).mono fun e w' ⟨he, hw⟩ => ⟨he, by subst hw; exact h'⟩
theorem Has.read (h : Has w0 w b d) (n : Str) {l : List UInt8} {x : Int} (hr : d.read n = (l, x)) :
    Calls Tryd.prog 22 #[.pointer (some ⟨b, 0, none⟩), .string ⟨n.toArray⟩] w fun e w' => ∃ v, e = .returned (.tuple #[v, .int .i64 x]) ∧ Own w' v l ∧ Has w0 w' b d ∧ ∀ g, v.ownBlock = some g → w.heap.size ≤ g := by
  have h' := h
  obtain ⟨S, h1, h2, h3⟩ := h
  have := Read_ok h1 n
  rw [hr] at this
  exact this.mono fun e w' ⟨v, he, hv, hw, hf⟩ => ⟨v, he, hv, h'.nw hw, hf⟩
theorem Has.list (h : Has w0 w b d) {l : List Str} (hl : d.list = l) :
    Calls Tryd.prog 26 #[.pointer (some ⟨b, 0, none⟩)] w fun e w' => ∃ v, e = .returned v ∧ Ss w' v l ∧ Has w0 w' b d ∧ ∀ g, v.ownBlock = some g → w.heap.size ≤ g := by
  have h' := h
  obtain ⟨S, h1, h2, h3⟩ := h
  have := List_ok h1
  rw [hl] at this
  exact this.mono fun e w' ⟨v, he, hv, hw, hf⟩ => ⟨v, he, hv, h'.nw hw, hf⟩
theorem Has.reads (h : Has w0 w b d) (n l : Str) (hr : d.read n = (l, 0)) :
    Calls Tryd.prog 47 #[.pointer (some ⟨b, 0, none⟩), .string ⟨n.toArray⟩, .string ⟨l.toArray⟩] w fun e w' => e = .returned (.bool true) ∧ Has w0 w' b d := by
  have h' := h
  obtain ⟨S, h1, h2, h3⟩ := h
  exact (reads_ok h1 n l hr).mono fun e w' ⟨he, hw⟩ => ⟨he, h'.nw hw⟩
end

/-- A row that a literal lays. -/
theorem rd_lit {α : Type} {f : α → Value} (w : World) (t : TypeId) (fz : Nat × Nat) (l : List α) (C : Array Value) (c : Nat) (hC : C = (l.map f).toArray) (hc : l.length ≤ c) (hm : c ≤ maxLen) :
    Rd f (w.alloc (.cells C t fz)) (.slice (some ⟨w.heap.size, 0, none⟩) l.length c) l := by
  refine .inr ⟨w.heap.size, 0, c, rfl, hc, hm, by simp, fun i hi => ?_⟩
  have : (w.alloc (.cells C t fz)).heap[w.heap.size]? = some (.cells C t fz) := heap_alloc_new w _
  subst hC
  unfold World.cell?
  rw [show (⟨w.heap.size, 0 + i, none⟩ : Addr).block = w.heap.size from rfl, this]
  simp [hi]
end Go.Proofs.YtihagdadbeoeoaaDoor
