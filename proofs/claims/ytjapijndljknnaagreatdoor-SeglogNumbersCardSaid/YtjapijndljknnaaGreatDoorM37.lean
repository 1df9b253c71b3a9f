/-
  Texts merged by a program of this claim's: CompR, EndUse, KeepUse, Names.
-/
import Derived.Test.YtjapijndljknnaaGreatDoorM35
import Derived.Test.YtjapijndljknnaaGreatDoorM36
import Derived.Test.YtjapijndljknnaaGreatDoorM28
import Derived.Test.YtjapijndljknnaaGreatDoorM32
import Derived.Test.YtjapijndljknnaaGreatDoorM18
import Derived.Test.YtjapijndljknnaaGreatDoorM11
import Derived.Test.YtjapijndljknnaaGreatDoorM27
/-
  compact.Compact: the region that makes the captured disk and name, over a frame of letters. Printed by wip/gen_compr.py.
-/
namespace Go.Proofs.YtjapijndljknnaaGreatDoor
open Go Go.RowKit Go.Sort
set_option maxRecDepth 100000
set_option maxHeartbeats 3200000
/-- A new box of one cell, and what it holds where S is so. -/
def Bx (w5 w : World) (x : Value) (T : TypeId) (S : Prop) (v : Value) : Prop := ∃ pd u, x = .pointer (some ⟨pd, 0, none⟩) ∧ w5.heap.size ≤ pd ∧ w.heap[pd]? = some (.cells #[u] T (0, 0)) ∧ (S → u = v)
section
variable {w5 w w' : World} {x v : Value} {T : TypeId} {S S' : Prop}
theorem Bx.nw (h : Bx w5 w x T S v) (hw : Nw w w') : Bx w5 w' x T S v := by
  obtain ⟨pd, u, h1, h2, h3, h4⟩ := h
  exact ⟨pd, u, h1, h2, hw.at_ h3, h4⟩
theorem Bx.imp (h : Bx w5 w x T S v) (hs : S' → S) : Bx w5 w x T S' v := by
  obtain ⟨pd, u, h1, h2, h3, h4⟩ := h
  exact ⟨pd, u, h1, h2, h3, fun h => h4 (hs h)⟩
theorem Bx.new {u : Value} (hw : Nw w5 w) (hs : S → u = v) : Bx w5 (w.alloc (.cells #[u] T (0, 0))) (.pointer (some ⟨w.heap.size, 0, none⟩)) T S v := ⟨_, u, rfl, hw.size, heap_alloc_new w _, hs⟩
theorem Bx.apart (h : Bx w5 w x T S v) : (.pointer (some ⟨w.heap.size, 0, none⟩) : Value) ≠ x := by
  obtain ⟨pd, u, rfl, h2, h3, h4⟩ := h
  have := lt_of_block h3
  intro hc
  injection hc with hc
  injection hc with hc
  injection hc with hc
  omega
end
end Go.Proofs.YtjapijndljknnaaGreatDoor

/-
  A log that is over: each call tells so, and changes nothing. A log on any disk behind few frames.
-/
namespace Go.Proofs.YtjapijndljknnaaGreatDoor
open Go Go.RowKit Go.Sort
set_option maxRecDepth 100000
set_option maxHeartbeats 1600000
section
variable {X Y : Nat → Prop} {w0 w w' : World} {p b : Nat} {d d' : Dsk} {L : Lg}
theorem Bk.call {z : Int} {c : Nat} (h : HasL X w0 w p b d L) (hs : Bk z c L) (hz : in64 z) (hc : c ≤ 1000) (hl : L.l.length ≤ 1000) (ht : Tab w0) {v : Value} {es : List Ev} (hv : Evs w v es) :
    Calls Tryz.prog 31 #[.pointer (some ⟨p, 0, none⟩), v] w (DidL X w0 w p b (L.add d es).d (L.add d es).L (.int .i64 (L.add d es).e)) := by
  have h1 := hs.n
  have h2 := hs.bytes
  exact LAppend_ok h ht ⟨by omega, by omega⟩ hs.last hl (by rw [hs.size]; exact hz) hv h.pok
theorem HasL.armed (h : HasL X w0 w p b d L) (k : Int) (hk : k ≤ 9223372036854775807) : Calls Tryz.prog 47 #[.pointer (some ⟨b, 0, none⟩), .int .i64 k] w (DidL X w0 w p b (d.armed k) L (.tuple #[])) :=
  h.step fun _ _ hY => hY.arm k hk rfl
end
end Go.Proofs.YtjapijndljknnaaGreatDoor

/-
  A log on any disk behind a frame, whether it is over or not, in plain words.
-/
namespace Go.Proofs.YtjapijndljknnaaGreatDoor
open Go
end Go.Proofs.YtjapijndljknnaaGreatDoor

/-
  The law's map 'names': a set of names, each with the number one.
-/
namespace Go.Proofs.YtjapijndljknnaaGreatDoor
open Go Go.RowKit Go.Sort
set_option maxRecDepth 100000
set_option maxHeartbeats 800000
/-- The map holds just these names, each with 1. -/
def Names (w : World) (m : Nat) (S : List Str) : Prop := ∃ L clock, w.heap[m]? = some (.map (ents L) clock) ∧ (∀ e ∈ L, e.val = .int .i64 1) ∧ ∀ k, k ∈ L.map En.key ↔ k ∈ S
theorem Names.nw {w w' : World} {m : Nat} {S : List Str} (h : Names w m S) (hw : Nw w w') : Names w' m S := by
  obtain ⟨L, c, h1, h2⟩ := h
  exact ⟨L, c, hw.at_ h1, h2⟩
end Go.Proofs.YtjapijndljknnaaGreatDoor
